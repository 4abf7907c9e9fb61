/- Operations that write. -/
import Derived.Test.YtckieogkaodkdaaWi
set_option linter.unusedVariables false
set_option linter.unusedSimpArgs false
namespace Go.Proofs.Ytckieogkaodkdaa.V
open Go Go.RowKit

theorem setRow_size (w : World) (b : Nat) (cs : Array Value) : (w.setRow b cs).heap.size = w.heap.size := by unfold World.setRow; simp
theorem setRow_rest (w : World) (b : Nat) (cs : Array Value) : (w.setRow b cs).os = w.os ∧ (w.setRow b cs).tape = w.tape ∧ (w.setRow b cs).output = w.output := ⟨rfl, rfl, rfl⟩
section
variable {w w' : World} {ok ok' : Nat → Prop}
/-- The elements of a slice whose elements are plain data. -/
theorem Own.flat_inv {T dp : Nat} {e : ET} {xs : List e.ty} {t : Tr} {v : Value} (h : Own w ok (dp + 1) (.sl T e) xs t v) (hd : dp = 0 ∨ e.isSl = false) : ∃ cs, w.ownsRow 0 T 1 v xs.length cs ∧ All2 (fun x c => Rd w ok e x [c]) xs cs := by
  obtain ⟨n, kids, cs, rfl, h1, h2, h3, _⟩ := h
  refine ⟨cs, h1 ▸ h2, All2.of_get (by have := h2.1; omega) fun i x c hi hc => ((Own.leaf hd).1 (h3 i x c hi hc)).2⟩
theorem Tr.own_block {v : Value} {n k : Nat} {kids : Nat → Tr} (h : v.ownBlock = some k) : k ∈ (Tr.nd v n kids).blocks := Tr.mem_nd.2 (.inl h)
/-- One element of a slice is another. -/
theorem Own.setAt (hx : Ext w ok w' ok') {d T : Nat} {e : ET} {ys : List e.ty} {n : Nat} {kids : Nat → Tr} {b cap : Nat} (h : Own w ok (d + 1) (.sl T e) ys (.nd (.slice (some ⟨b, 0, none⟩) n cap) n kids) (.slice (some ⟨b, 0, none⟩) n cap))
    {i : Nat} (hi : i < n) {y : e.ty} {t2 : Tr} {c : Value} {cur : Array Value} {T' : Nat} (hcur : w.heap[b]? = some (.cells cur T' (0, 0))) (hnew : w'.heap[b]? = some (.cells (cur.toList.take i ++ [c] ++ cur.toList.drop (i + 1)).toArray T' (0, 0)))
    (hsame : ∀ k ∈ (Tr.nd (.slice (some ⟨b, 0, none⟩) n cap) n kids).blocks, k ≠ b → w'.heap[k]? = w.heap[k]?) (ho : Own w' ok' d e y t2 c)
    (ht : ∀ k ∈ t2.blocks, k ∈ (kids i).blocks ∨ k ∉ (Tr.nd (.slice (some ⟨b, 0, none⟩) n cap) n kids).blocks) :
    Own w' ok' (d + 1) (.sl T e) (ys.set i y) (.nd (.slice (some ⟨b, 0, none⟩) n cap) n (upd kids i t2)) (.slice (some ⟨b, 0, none⟩) n cap) := by
  obtain ⟨n1, kids1, cs, htr, h1, h2, h3, h4, h5⟩ := h
  injection htr with _ ht1 ht2
  subst ht1; subst ht2
  have hlen : cs.length = n := by have := h2.1; simpa using this
  have hb : b ∈ (Tr.nd (.slice (some ⟨b, 0, none⟩) n cap) n kids).blocks := Tr.own_block rfl
  have hrow : w'.ownsRow 0 T 1 (.slice (some ⟨b, 0, none⟩) n cap) n (cs.set i c) := by
    obtain ⟨_, hown⟩ := h2
    rcases hown with ⟨hv, h0⟩ | ⟨b', cap', cur', hv, _, hheap, hncap, hcapm, hcs, htake⟩
    · cases hv
    · injection hv with hv1 hv2 hv3
      injection hv1 with hv1
      injection hv1 with hv1
      subst hv1; subst hv3
      rw [hcur] at hheap
      injection hheap with hheap
      injection hheap with q1 q2 q3
      subst q1; subst q2
      refine ⟨by simp [hlen], .inr ⟨b, cap, _, rfl, Nat.zero_le _, hnew, hncap, hcapm, ?_, ?_⟩⟩
      · simp only [List.size_toArray, List.length_append, List.length_take, List.length_drop, Array.length_toList, List.length_singleton]; omega
      · have hsz : cur.toList.length = cap := by simp; omega
        have hset : (cur.toList.take i ++ [c] ++ cur.toList.drop (i + 1)) = cur.toList.set i c := by rw [List.set_eq_take_append_cons_drop, if_pos (by omega)]; simp
        rw [hset]
        rw [Nat.mul_one] at htake ⊢
        rw [List.take_set, htake]
  have kid : ∀ {j x c0}, j ≠ i → ys[j]? = some x → cs[j]? = some c0 → Own w' ok' d e x (kids j) c0 := fun {j x c0} e1 hj hc => by
    have hjn : j < n := h1 ▸ (List.getElem?_eq_some_iff.1 hj).1
    exact Own.mono hx (fun k hk => hsame k (Tr.mem_nd.2 (.inr ⟨j, hjn, hk⟩)) fun e2 => h4 j hjn k hk (by rw [e2]; rfl)) (h3 j x c0 hj hc)
  refine ⟨n, _, cs.set i c, rfl, by simpa using h1, hrow, fun j x c0 hj hc => ?_, fun j hj k hk => ?_, fun j j' k hj hj' hk hk' => ?_⟩
  · by_cases e1 : j = i
    · subst e1
      rw [List.getElem?_set_self (by omega)] at hj hc
      injection hj with hj; injection hc with hc
      subst hj; subst hc
      simp only [upd, beq_self, cond_true]; exact ho
    · rw [List.getElem?_set_ne (Ne.symm e1)] at hj hc
      simp only [upd, beq_ne e1, cond_false]; exact kid e1 hj hc
  · by_cases e1 : j = i
    · subst e1
      simp only [upd, beq_self, cond_true] at hk
      rcases ht k hk with h | h
      · exact h4 j hj k h
      · exact fun hv => h (Tr.own_block hv)
    · simp only [upd, beq_ne e1, cond_false] at hk
      exact h4 j hj k hk
  · have key : ∀ j k, j < n → k ∈ (upd kids i t2 j).blocks → k ∈ (kids j).blocks ∨ (j = i ∧ k ∉ (Tr.nd (.slice (some ⟨b, 0, none⟩) n cap) n kids).blocks) := fun j k hj hk => by
      by_cases e : j = i
      · subst e
        simp only [upd, beq_self, cond_true] at hk
        exact (ht k hk).imp id fun h => ⟨rfl, h⟩
      · simp only [upd, beq_ne e, cond_false] at hk
        exact .inl hk
    rcases key j k hj hk with h | ⟨e1, h⟩ <;> rcases key j' k hj' hk' with h' | ⟨e2, h'⟩
    · exact h5 j j' k hj hj' h h'
    · exact absurd (Tr.mem_nd.2 (.inr ⟨j, hj, h⟩)) h'
    · exact absurd (Tr.mem_nd.2 (.inr ⟨j', hj', h'⟩)) h
    · rw [e1, e2]
theorem upd_same {α : Type} (f : Nat → α) (k : Nat) : upd f k (f k) = f := by
  funext i
  by_cases e : i = k
  · subst e; simp [upd]
  · simp [upd, beq_ne e]
end

section
variable {P : Program} {E : Env} {w0 : World} {io : Nat → Prop} {S : St} {g : GM} {a : Act} {w : World}
theorem app_none (S : St) (d : Option Nat) (f : AV → AV) (m : Nat → ME) (ids : List Nat) : S.app d ⟨none, f, m, ids⟩ = ⟨fun i => f (S.t i), m⟩ := by cases d <;> rfl
theorem app_none_id (S : St) (d : Option Nat) (m : Nat → ME) (ids : List Nat) : S.app d ⟨none, fun x => x, m, ids⟩ = ⟨S.t, m⟩ := by cases d <;> rfl
theorem Sim.ofBox {m m' : Nat → ME} {g g' : GM} {id : Nat} {l l' : List AV} (hm : m id = .box l) (hm' : m' id = .box l') (hg : g' id = g id) : Sim m g m' g' id :=
  ⟨fun _ _ => ⟨⟨l', hm'⟩, by rw [hg]⟩, (fun e n xs he => by rw [hm] at he; cases he), (fun T e dp xs he => by rw [hm] at he; cases he)⟩
theorem Sim.ofArr {m m' : Nat → ME} {g g' : GM} {id n : Nat} {e : ET} {l l' : List e.ty} (hm : m id = .arr e n l) (hm' : m' id = .arr e n l') (hg : g' id = g id) : Sim m g m' g' id :=
  ⟨(fun _ he => by rw [hm] at he; cases he), (fun e n xs he => by rw [hm] at he; cases he; exact ⟨⟨l', hm'⟩, by rw [hg]⟩), (fun T e dp xs he => by rw [hm] at he; cases he)⟩
theorem Sim.ofObj {m m' : Nat → ME} {g g' : GM} {id T dp : Nat} {e : ET} {l l' : List e.ty} (hm : m id = .obj T e dp l) (hm' : m' id = .obj T e dp l') (hg : g' id = g id) : Sim m g m' g' id :=
  ⟨(fun _ he => by rw [hm] at he; cases he), (fun e n xs he => by rw [hm] at he; cases he), (fun T e dp xs he => by rw [hm] at he; cases he; exact ⟨⟨l', hm'⟩, by rw [hg]⟩)⟩
theorem upd_self {α : Type} (f : Nat → α) (k : Nat) (v : α) : upd f k v k = v := by simp [upd]
theorem kept_upd {nio : Nat} {S : St} {id : Nat} {M : ME} (hk : KM (S.m id) M) : Kept nio S g ⟨S.t, upd S.m id M⟩ g := ⟨fun _ h => h, fun i _ => ⟨fun _ => rfl, by
  show KM (S.m i) (upd S.m id M i)
  by_cases e : i = id
  · subst e; simpa [upd] using hk
  · simp only [upd, beq_ne e, cond_false]; exact .refl _⟩⟩
theorem d_store (h : SR w0 io E.ntmps S g a w) {o : Oper} {T : Nat} {x y : Operand} (hT : TyOK P T (E.ty T)) (ho : o.op = .store T x y) (hd : o.dst = none) {F : Eff}
    (hk : storeK E S.m T (S.ev E 0 x) (S.ev E T y) some = some F) : Does P E w0 io S g a w o F := by
  intro K Q hK
  rw [hd] at hK
  have hX := ev_ok h 0 x
  have hY := ev_ok h T y
  have hrun : ∀ ad w', a.eval x = .pointer (some ad) → (a.eval y).cells.size = (E.ty T).sz → (storeCells ad (a.eval y).cells.toList).run P w = .ok () w' → K a w' → o.wp P a w K Q := by
    intro ad w' h1 h2 h3 h4
    have : (execOp a.eval o).run P w = .ok .skip w' := by
      have hst : (Instr.storeAt T (a.eval x) (a.eval y)).run P w = .ok () w' := by
        simp [Instr.storeAt, Instr.sureAddr, h1, storeVar, hT.size, h2, h3]
      simp only [execOp, ho, Sem.run_bind, hst, Result.andThen_ok, Sem.run_pure]
    unfold Oper.wp
    rw [this, Oper.upon_skip, hd]
    exact h4
  generalize S.ev E 0 x = X at *
  generalize S.ev E T y = Y at *
  -- one cell of a row
  have cell : ∀ {b i : Nat} {cur : Array Value} {T' : Nat} {c : Value}, w.heap[b]? = some (.cells cur T' (0, 0)) → i < cur.size → c.oneCell' = true →
      ∃ W, (storeCells ⟨b, i, none⟩ [c]).run P w = .ok () W ∧ W.os = w.os ∧ W.tape = w.tape ∧ W.output = w.output ∧ W.heap.size = w.heap.size ∧ (∀ k, k ≠ b → W.heap[k]? = w.heap[k]?) ∧ W.heap[b]? = some (.cells (cur.toList.take i ++ [c] ++ cur.toList.drop (i + 1)).toArray T' (0, 0)) := by
    intro b i cur T' c hh hi hone
    have hst := run_storeCells_at (P := P) b i T' [c] 0 cur w hh (by simp only [Nat.add_zero, List.length_singleton]; omega) (by simpa using hone)
    obtain ⟨h1, h2, h3⟩ := setRow_rest w b (cur.toList.take (i + 0) ++ [c] ++ cur.toList.drop (i + 0 + [c].length)).toArray
    have hlive := setRow_heap w b cur (cur.toList.take (i + 0) ++ [c] ++ cur.toList.drop (i + 0 + [c].length)).toArray T' _ hh
    exact ⟨_, hst, h1, h2, h3, setRow_size _ _ _, fun k hk => setRow_other _ _ _ _ hk, hlive⟩
  unfold storeK at hk
  split at hk
  · rename_i id off
    obtain ⟨hp, _⟩ := hX
    split at hk
    · rename_i l hm
      rcases cond_some hk with ⟨hb, hk⟩ | ⟨_, hk⟩
      rotate_left
      · cases hk
      injection hk with hk
      subst hk
      simp only [Bool.and_eq_true] at hb
      obtain ⟨hcs, h1⟩ := solid_cells h.mem hY hb.1.2
      have hlen : (a.eval y).cells.size = (E.ty T).sz := by rw [← beq_true hb.1.1, hcs.length]; simp
      have hle := Nat.le_of_ble_eq_true hb.2
      have hM := h.mem id
      rw [hm] at hM
      obtain ⟨vs, T', hh, hl⟩ := hM
      have hll := hl.length
      have hcl := hcs.length
      have hst := run_storeCells_at (P := P) (g id).blk off T' (a.eval y).cells.toList 0 vs w hh (by simp only [Nat.add_zero, Array.length_toList] at hll hcl ⊢; omega) h1
      refine hrun _ _ hp hlen hst ?_
      obtain ⟨hos, hta, hou⟩ := setRow_rest w (g id).blk (vs.toList.take (off + 0) ++ (a.eval y).cells.toList ++ vs.toList.drop (off + 0 + (a.eval y).cells.toList.length)).toArray
      have hlive := setRow_heap w (g id).blk vs (vs.toList.take (off + 0) ++ (a.eval y).cells.toList ++ vs.toList.drop (off + 0 + (a.eval y).cells.toList.length)).toArray T' _ hh
      rw [app_none_id] at hK
      refine hK g _ _ (h.stored id _ hos hta hou (setRow_size _ _ _) (fun k hkn => setRow_other _ _ _ _ (fun e => hkn (by rw [hm, e]; simp [blks]))) (by rw [hm]; rfl) (Sim.ofBox hm (upd_self ..) rfl) fun hx hf => ?_) (kept_upd (by rw [hm]; exact .inr ⟨_, rfl⟩))
      refine ⟨_, T', hlive, ?_⟩
      have e : (vs.toList.take (off + 0) ++ (a.eval y).cells.toList ++ vs.toList.drop (off + 0 + (a.eval y).cells.toList.length)).toArray.toList = vs.toList.take off ++ (a.eval y).cells.toList ++ vs.toList.drop (off + (a.eval y).cells.toList.length) := by simp
      rw [e]
      exact (splice_all2 hl hcs off).mono fun _ _ hr => R1.map0 hf hr
    · rename_i e n xs hm
      split at hk
      · rename_i e' n' ys
        rcases cond_some hk with ⟨hb, hk⟩ | ⟨_, hk⟩
        rotate_left
        · cases hk
        split at hk
        · rename_i he
          subst he
          injection hk with hk
          subst hk
          simp only [Bool.and_eq_true] at hb
          obtain ⟨⟨hb1, hb2⟩, hb3⟩ := hb
          have hb1 := beq_true hb1
          have hb2 := beq_true hb2
          have hb3 := beq_true hb3
          subst hb1; subst hb2
          obtain ⟨us, hv, hn', hys⟩ := hY
          have hM := h.mem id
          rw [hm] at hM
          obtain ⟨hn, vs, T', hh, hl⟩ := hM
          have hcell : (a.eval y).cells = us := by rw [hv]; rfl
          have hul : us.toList.length = n' := by rw [← hys.length, hn']
          have hvl : vs.toList.length = n' := by rw [← hl.length, hn]
          have hone : ∀ u ∈ us.toList, u.oneCell' = true := fun u hu => by
            obtain ⟨j, hj⟩ := List.mem_iff_getElem?.1 hu
            obtain ⟨z, _, hr⟩ := hys.get' j u hj
            exact hr.one u (List.mem_singleton.2 rfl)
          have hst := run_storeCells_at (P := P) (g id).blk 0 T' us.toList 0 vs w hh (by simp only [Nat.add_zero, Nat.zero_add]; rw [hul, ← hvl]; simp) hone
          refine hrun _ _ hp (by rw [hcell, ← Array.length_toList, hul, hb3]) (by rw [hcell]; exact hst) ?_
          obtain ⟨hos, hta, hou⟩ := setRow_rest w (g id).blk (vs.toList.take (0 + 0) ++ us.toList ++ vs.toList.drop (0 + 0 + us.toList.length)).toArray
          have hlive := setRow_heap w (g id).blk vs (vs.toList.take (0 + 0) ++ us.toList ++ vs.toList.drop (0 + 0 + us.toList.length)).toArray T' _ hh
          have hall : (vs.toList.take (0 + 0) ++ us.toList ++ vs.toList.drop (0 + 0 + us.toList.length)).toArray.toList = us.toList := by
            rw [List.drop_of_length_le (by omega)]; simp
          rw [app_none_id] at hK
          refine hK g _ _ (h.stored id _ hos hta hou (setRow_size _ _ _) (fun k hkn => setRow_other _ _ _ _ (fun e => hkn (by rw [hm, e]; simp [blks]))) (by rw [hm]; rfl) (Sim.ofArr hm (upd_self ..) rfl) fun hx hf => ?_) (kept_upd (by rw [hm]; exact .inr ⟨ys, rfl⟩))
          exact ⟨hn', _, T', hlive, by rw [hall]; exact hys.mono fun _ _ => Rd.mono hx⟩
        · cases hk
      · cases hk
    · cases hk
  · rename_i id q i
    rcases cond_some hk with ⟨hsz, hk⟩ | ⟨_, hk⟩
    rotate_left
    · cases hk
    have hsz := beq_true hsz
    split at hk
    rotate_left
    · cases hk
    rename_i c hYc
    -- the value that is stored is one cell
    have hone : c.cellOk = true → (a.eval y).cells.toList = [(a.eval y).cells.toList.head!] ∧ R1 w (okOf w S.m g) S.m g c (a.eval y).cells.toList.head! := fun hc => by
      have hs : Y.solid = true := by
        cases Y <;> simp only [AV.cells] at hYc
        case agg l => subst hYc; simp [AV.solid, hc]
        all_goals (injection hYc with hYc _; subst hYc; exact hc)
      obtain ⟨h1, _⟩ := solid_cells h.mem hY hs
      rw [hYc] at h1
      have hl := h1.length
      match hcl : (a.eval y).cells.toList, h1, hl with
      | [u], .cons h2 _, _ => exact ⟨rfl, h2⟩
    split at hk
    · rename_i e n xs hm
      split at hk
      rotate_left
      · cases hk
      split at hk
      · rename_i z hz
        injection hk with hk
        subst hk
        obtain ⟨h1, h2⟩ := hone (asE_cell hz)
        have hrd := asE_ok hz h2
        generalize (a.eval y).cells.toList.head! = u at *
        rcases hX with ⟨⟨_, _, _, _, hm'⟩, _⟩ | ⟨_, ⟨e2, n2, xs2, hm', hi⟩, hp⟩
        · rw [hm] at hm'; cases hm'
        rw [hm] at hm'
        cases hm'
        have hM := h.mem id
        rw [hm] at hM
        obtain ⟨hn, vs, T', hh, hl⟩ := hM
        have hvl : vs.size = n := by rw [← Array.length_toList, ← hl.length, hn]
        obtain ⟨W, hst, hos, hta, hou, hsize, hother, hlive⟩ := cell (i := i) hh (by omega) (hrd.one u (List.mem_singleton.2 rfl))
        refine hrun _ W hp (by rw [← Array.length_toList, h1, hsz]; rfl) (by rw [h1]; exact hst) ?_
        rw [app_none_id] at hK
        refine hK g _ _ (h.stored id _ hos hta hou hsize (fun k hkn => hother k (fun e => hkn (by rw [hm, e]; simp [blks]))) (by rw [hm]; rfl) (Sim.ofArr hm (upd_self ..) rfl) fun hx hf => ?_) (kept_upd (by rw [hm]; exact .inr ⟨_, rfl⟩))
        refine ⟨by simpa using hn, _, T', hlive, ?_⟩
        have hset : (vs.toList.take i ++ [u] ++ vs.toList.drop (i + 1)) = vs.toList.set i u := by rw [List.set_eq_take_append_cons_drop, if_pos (by simp; omega)]; simp
        rw [hset]
        exact (hl.mono fun _ _ => Rd.mono hx).set (Rd.mono hx hrd) i
      · cases hk
    · rename_i T0 e dp xs hm
      split at hk
      rotate_left
      · cases hk
      rename_i T' e' ys hp
      rcases hX with ⟨_, b, cp, n, kids, hg, hi, hpv⟩ | ⟨_, ⟨_, _, _, hm', _⟩, _⟩
      rotate_left
      · rw [hm] at hm'; cases hm'
      have hM := h.mem id
      rw [hm] at hM
      obtain ⟨T2, e2, ys2, q2, q3, hsub⟩ := Own.get q hM hg
      rw [hp] at q2
      injection q2 with q2
      cases q2
      have hd1 : dp + 1 - q.length = (dp - q.length) + 1 := by omega
      rw [hd1] at hsub
      have hsub0 := hsub
      obtain ⟨n1, kids1, cs, htr, hn1, hrow, _⟩ := hsub0
      injection htr with _ ht1 ht2
      subst ht1; subst ht2
      obtain ⟨cur, hcur, hcsz⟩ : ∃ cur, w.heap[b]? = some (.cells cur T' (0, 0)) ∧ cur.size = cp ∧ n ≤ cp := by
        rcases hrow.2 with ⟨hv, _⟩ | ⟨b', cap', cur', hv, _, hheap, hncap, hcapm, hcs, htake⟩
        · cases hv
        · injection hv with hv1 hv2 hv3
          injection hv1 with hv1
          injection hv1 with hv1
          subst hv1; subst hv3
          exact ⟨cur', hheap, by omega, hncap⟩
      have hbt : b ∈ (g id).tr.blocks := Tr.get_blocks hg b (Tr.own_block rfl)
      rcases cond_some hk with ⟨hown, hk⟩ | ⟨hown, hk⟩
      · -- a slice of the call's own is laid in
        split at hk
        rotate_left
        · cases hk
        rename_i r _
        split at hk
        rotate_left
        · cases hk
        rename_i T1 e1 d1 zs hmr
        rcases cond_some hk with ⟨hb, hk⟩ | ⟨_, hk⟩
        rotate_left
        · cases hk
        split at hk
        rotate_left
        · cases hk
        rename_i he1
        subst he1
        split at hk
        rotate_left
        · cases hk
        rename_i z hz
        injection hk with hk
        subst hk
        simp only [Bool.and_eq_true, Bool.not_eq_true'] at hb
        obtain ⟨⟨hio, hne⟩, hdp⟩ := hb
        have hio := Nat.le_of_ble_eq_true hio
        have hdp := beq_true hdp
        have hne : r ≠ id := fun e => by rw [e, beq_self] at hne; cases hne
        obtain ⟨h1, h2⟩ := hone rfl
        generalize (a.eval y).cells.toList.head! = u at *
        obtain ⟨_, nr, kr, htr⟩ := h2
        simp only [Tr.get, Option.some.injEq] at htr
        have hMr := h.mem r
        rw [hmr] at hMr
        have hMr : Own w (okOf w S.m g) (d1 + 1) (.sl T1 e1) zs (g r).tr (g r).tr.v := hMr
        rw [htr] at hMr
        have hMr : Own w (okOf w S.m g) (d1 + 1) (.sl T1 e1) zs (.nd u nr kr) u := hMr
        obtain ⟨W, hst, hos, hta, hou, hsize, hother, hlive⟩ := cell (i := i) hcur (by omega) hMr.one
        refine hrun _ W hpv (by rw [← Array.length_toList, h1, hsz]; rfl) (by rw [h1]; exact hst) ?_
        rw [app_none] at hK
        have hrb : ∀ k, k ∈ (Tr.nd u nr kr).blocks → k ∉ (g id).tr.blocks := fun k hk hk' => hne (h.disj r id k (by rw [hmr]; show k ∈ (g r).tr.blocks; rw [htr]; exact hk) (by rw [hm]; exact hk'))
        generalize hs2 : Tr.nd (.slice (some ⟨b, 0, none⟩) n cp) n (upd kids i (.nd u nr kr)) = s2
        generalize hG : (⟨(g id).blk, (g id).tr.put q s2⟩ : GE) = G
        have hGt : G.tr = (g id).tr.put q s2 := by subst hG; rfl
        generalize hm3 : upd (upd (fun j => liftM (takeF id r (q ++ [i])) (S.m j)) r .none) id (.obj T0 e dp z) = m3 at *
        have hmid : m3 id = .obj T0 e dp z := by subst hm3; simp [upd]
        have hmrr : m3 r = .none := by subst hm3; simp [upd, beq_ne hne]
        have hmj : ∀ j, j ≠ id → j ≠ r → m3 j = liftM (takeF id r (q ++ [i])) (S.m j) := fun j e1 e2 => by subst hm3; simp [upd, beq_ne e1, beq_ne e2]
        have hsb : ∀ k, k ∈ s2.blocks → k ∈ (Tr.nd (.slice (some ⟨b, 0, none⟩) n cp) n kids).blocks ∨ k ∈ (Tr.nd u nr kr).blocks := fun k hk => by
          rw [← hs2] at hk
          rcases Tr.mem_nd.1 hk with hk | ⟨j, hj, hk⟩
          · exact .inl (Tr.own_block hk)
          · by_cases e1 : j = i
            · subst e1; simp only [upd, beq_self, cond_true] at hk; exact .inr hk
            · simp only [upd, beq_ne e1, cond_false] at hk; exact .inl (Tr.mem_nd.2 (.inr ⟨j, hj, hk⟩))
        have hbG : ∀ k, k ∈ G.tr.blocks → k ∈ (g id).tr.blocks ∨ k ∈ (g r).tr.blocks := fun k hk => by
          rw [hGt] at hk
          rcases Tr.put_blocks hk with hk | hk
          · rcases hsb k hk with hk | hk
            · exact .inl (Tr.get_blocks hg k hk)
            · exact .inr (by rw [htr]; exact hk)
          · exact .inl hk
        have hb3 : ∀ j k, k ∈ blks (m3 j) ((g.put id G) j) → (j = id ∧ (k ∈ blks (S.m id) (g id) ∨ k ∈ blks (S.m r) (g r))) ∨ (j ≠ id ∧ j ≠ r ∧ k ∈ blks (S.m j) (g j)) := fun j k hkb => by
          by_cases e1 : j = id
          · subst e1
            rw [hmid, GM.put_self] at hkb
            exact .inl ⟨rfl, by rw [hm, hmr]; exact hbG k hkb⟩
          · by_cases e2 : j = r
            · subst e2; rw [hmrr] at hkb; cases hkb
            · rw [hmj j e1 e2, GM.put_ne g _ e1, blks_lift] at hkb; exact .inr ⟨e1, e2, hkb⟩
        have hgput : (g id).tr.get q = some (.nd (.slice (some ⟨b, 0, none⟩) n cp) n kids) := hg
        have hroot : ∃ n' kids', G.tr = .nd (g id).tr.v n' kids' ∧ ∀ v0 n0 k0, (g id).tr = .nd v0 n0 k0 → n' = n0 := by
          rw [hGt]
          cases q with
          | nil =>
            rw [Tr.put_nil, ← hs2]
            simp only [Tr.get, Option.some.injEq] at hgput
            rw [hgput]
            exact ⟨n, _, rfl, fun v0 n0 k0 hh => by injection hh⟩
          | cons i0 q0 =>
            cases ht0 : (g id).tr with
            | lf => rw [ht0] at hgput; simp [Tr.get] at hgput
            | nd v0 n0 k0 => exact ⟨n0, _, rfl, fun v1 n1 k1 hh => by injection hh⟩
        obtain ⟨nG, kG, hGr, hGn⟩ := hroot
        have hstep := h.step (m' := m3) (g' := g.put id G) (w' := W) (· = id) (f := takeF id r (q ++ [i])) hos hta hou (by omega) (fun k _ hk => hother k (fun e1 => hk id rfl (by rw [hm, e1]; exact hbt))) (fun j k hk => by
            rcases hb3 j k hk with ⟨_, h3 | h3⟩ | ⟨_, _, h3⟩ <;> exact .inl ⟨_, h3⟩) (fun j j' k hk hk' => by
            rcases hb3 j k hk with ⟨e1, h3⟩ | ⟨e1, e2, h3⟩ <;> rcases hb3 j' k hk' with ⟨e3, h4⟩ | ⟨e3, e4, h4⟩
            · rw [e1, e3]
            · rcases h3 with h3 | h3
              · exact absurd (h.disj _ _ k h4 h3) e3
              · exact absurd (h.disj _ _ k h4 h3) e4
            · rcases h4 with h4 | h4
              · exact absurd (h.disj _ _ k h3 h4) e1
              · exact absurd (h.disj _ _ k h3 h4) e2
            · exact h.disj _ _ k h3 h4) rfl fun hx => ⟨fun x' v' hr => ?_, fun hf j => ?_⟩
        · exact hK _ _ _ hstep.1 ⟨fun _ hh => hh, fun j hj => by
            have e1 : j ≠ id := by omega
            refine ⟨fun _ => GM.put_ne g _ e1, ?_⟩
            show KM (S.m j) (m3 j)
            by_cases e2 : j = r
            · subst e2; rw [hmrr]; exact .inl rfl
            · rw [hmj j e1 e2]; exact .lift ..⟩
        · -- references
          have other : takeF id r (q ++ [i]) x' = x' → (∀ j, x'.id? = some j → j ≠ id ∧ j ≠ r) → R0 W (okOf W m3 (g.put id G)) m3 (g.put id G) (takeF id r (q ++ [i]) x') v' := fun h3 h4 => by
            rw [h3]; exact R0.sim hx (fun j hj => Sim.lift (f := takeF id r (q ++ [i])) (hmj j (h4 j hj).1 (h4 j hj).2) (GM.put_ne g _ (h4 j hj).1)) hr
          have hget : ∀ q', G.tr.get (q ++ [i] ++ q') = (g r).tr.get q' := fun q' => by
            rw [hGt, List.append_assoc, Tr.get_append, Tr.get_put hg, ← hs2]
            simp only [Option.bind_some, List.singleton_append, Tr.get, if_pos hi, upd, beq_self, cond_true]
            rw [htr]
          cases x' with
          | ref j q' =>
            by_cases e2 : j = r
            · subst e2
              simp only [takeF, beq_self, cond_true]
              obtain ⟨_, n', k', h5⟩ := hr
              exact ⟨⟨T0, e, dp, z, hmid⟩, n', k', by rw [GM.put_self, hget]; exact h5⟩
            · by_cases e1 : j = id
              · subst e1
                cases q' with
                | nil =>
                  simp only [takeF, beq_ne e2, beq_self, List.isEmpty_nil, Bool.not_true, Bool.and_false, cond_false]
                  obtain ⟨_, n', k', h5⟩ := hr
                  simp only [Tr.get, Option.some.injEq] at h5
                  refine ⟨⟨T0, e, dp, z, hmid⟩, nG, kG, ?_⟩
                  rw [GM.put_self]
                  simp only [Tr.get]
                  rw [hGr, h5]; rfl
                | cons i0 q0 => simp only [takeF, beq_ne e2, beq_self, List.isEmpty_cons, Bool.not_false, Bool.and_true, cond_false, cond_true]; trivial
              · exact other (by simp [takeF, beq_ne e2, beq_ne e1]) (by intro j' hj'; simp [AV.id?] at hj'; subst hj'; exact ⟨e1, e2⟩)
          | eptr j q' i' =>
            by_cases e2 : j = r
            · subst e2
              simp only [takeF, beq_self, cond_true]
              rcases hr with ⟨_, b', c', n', k', h5, h6, h7⟩ | ⟨_, ⟨_, _, _, h5, _⟩, _⟩
              · exact .inl ⟨⟨T0, e, dp, z, hmid⟩, b', c', n', k', by rw [GM.put_self, hget]; exact h5, h6, h7⟩
              · rw [hmr] at h5; cases h5
            · by_cases e1 : j = id
              · subst e1
                cases q' with
                | nil =>
                  simp only [takeF, beq_ne e2, beq_self, List.isEmpty_nil, Bool.not_true, Bool.and_false, cond_false]
                  rcases hr with ⟨_, b', c', n', k', h5, h6, h7⟩ | ⟨_, ⟨_, _, _, h5, _⟩, _⟩
                  · simp only [Tr.get, Option.some.injEq] at h5
                    have hn' := hGn _ _ _ h5
                    subst hn'
                    refine .inl ⟨⟨T0, e, dp, z, hmid⟩, b', c', nG, kG, ?_, h6, h7⟩
                    rw [GM.put_self]
                    simp only [Tr.get]
                    rw [hGr, h5]; rfl
                  · rw [hm] at h5; cases h5
                | cons i0 q0 => simp only [takeF, beq_ne e2, beq_self, List.isEmpty_cons, Bool.not_false, Bool.and_true, cond_false, cond_true]; trivial
              · exact other (by simp [takeF, beq_ne e2, beq_ne e1]) (by intro j' hj'; simp [AV.id?] at hj'; subst hj'; exact ⟨e1, e2⟩)
          | ptr j off => exact other rfl (by
              intro j' hj'; simp [AV.id?] at hj'; subst hj'
              obtain ⟨_, h5⟩ := hr
              refine ⟨?_, ?_⟩ <;> rintro rfl
              · rw [hm] at h5; rcases h5 with ⟨_, h5⟩ | ⟨_, _, _, h5⟩ <;> cases h5
              · rw [hmr] at h5; rcases h5 with ⟨_, h5⟩ | ⟨_, _, _, h5⟩ <;> cases h5)
          | d e x => exact other rfl (by intro j hj; simp [AV.id?] at hj)
          | arr e n x => exact other rfl (by intro j hj; simp [AV.id?] at hj)
          | iptr l => exact other rfl (by intro j hj; simp [AV.id?] at hj)
          | nilS T e => exact other rfl (by intro j hj; simp [AV.id?] at hj)
          | nilI => exact other rfl (by intro j hj; simp [AV.id?] at hj)
          | skip => exact other rfl (by intro j hj; simp [AV.id?] at hj)
          | undef => exact other rfl (by intro j hj; simp [AV.id?] at hj)
          | agg l => exact hr.elim
          | tup l => exact hr.elim
          | fn f l => exact hr.elim
        · by_cases e1 : j = id
          · subst e1
            rw [hmid, GM.put_self]
            have hMr' : Own W (okOf W m3 (g.put j G)) (d1 + 1) (.sl T1 e1) zs (.nd u nr kr) u := Own.mono hx (fun k hk => hother k fun e3 => hrb k hk (e3 ▸ hbt)) hMr
            have hd2 : dp - q.length = d1 + 1 := by omega
            rw [hd2] at hsub
            have hset := Own.setAt hx hsub hi (y := zs) (t2 := .nd u nr kr) (c := u) hcur hlive (fun k _ hkb => hother k hkb) hMr' (fun k hk => .inr fun hk' => hrb k hk (Tr.get_blocks hg k hk'))
            rw [hs2] at hset
            obtain ⟨z', hz', ho'⟩ := Own.put (w' := W) (ok' := okOf W m3 (g.put j G)) hx q hM hg hp (s := s2) (zs := List.set ys i zs) (by rw [hd1, hd2]; exact hset) (fun k hk => (hsb k hk).imp id fun hk hk' => hrb k hk hk') (fun k hk hkn => hother k fun e3 => hkn (e3 ▸ Tr.own_block rfl))
            rw [hz] at hz'
            injection hz' with hz'
            subst hz'
            show Own W _ (dp + 1) (.sl T0 e) z G.tr G.tr.v
            rw [hGt]
            have hvv : ((g j).tr.put q s2).v = (g j).tr.v := by rw [← hGt, hGr]; rfl
            rw [hvv]
            exact ho'
          · by_cases e2 : j = r
            · subst e2; rw [hmrr]; trivial
            · rw [hmj j e1 e2, GM.put_ne g _ e1]
              exact MR.lift hx hf (fun k hk => hother k fun e3 => e1 (h.disj j id k hk (by rw [hm, e3]; exact hbt))) (h.mem j)
      · -- plain data
        split at hk
        · rename_i u0 hu0
          split at hk
          · rename_i z hz
            injection hk with hk
            subst hk
            obtain ⟨h1, h2⟩ := hone (asE_cell hu0)
            have hrd := asE_ok hu0 h2
            generalize (a.eval y).cells.toList.head! = u at *
            obtain ⟨W, hst, hos, hta, hou, hsize, hother, hlive⟩ := cell (i := i) hcur (by omega) (hrd.one u (List.mem_singleton.2 rfl))
            refine hrun _ W hpv (by rw [← Array.length_toList, h1, hsz]; rfl) (by rw [h1]; exact hst) ?_
            rw [app_none_id] at hK
            refine hK g _ _ (h.stored id _ hos hta hou hsize (fun k hkn => hother k (fun e1 => hkn (by rw [hm, e1]; exact hbt))) (by rw [hm]; rfl) (Sim.ofObj hm (upd_self ..) rfl) fun hx hf => ?_) (kept_upd (by rw [hm]; exact .inr ⟨_, rfl⟩))
            have hl : dp - q.length = 0 ∨ e'.isSl = false := by
              cases h9 : e'.isSl with
              | false => exact .inr rfl
              | true =>
                rw [h9, Bool.and_true] at hown
                refine .inl ?_
                have : ¬ q.length < dp := fun hlt => by rw [show Nat.blt q.length dp = true from Nat.ble_eq_true_of_le hlt] at hown; cases hown
                omega
            have hkid : kids i = .lf := by
              obtain ⟨_, c0, h5, _⟩ := hsub.elem hi
              exact ((Own.leaf hl).1 h5).1
            have hset := Own.setAt hx hsub hi (y := u0) (t2 := .lf) (c := u) hcur hlive (fun k _ hkb => hother k hkb) ((Own.leaf hl).2 ⟨rfl, Rd.mono hx hrd⟩) (fun k hk => by simp [Tr.blocks] at hk)
            rw [← hkid, upd_same] at hset
            obtain ⟨z', hz', ho'⟩ := Own.put hx q hM hg hp (zs := List.set ys i u0) (by rw [hd1]; exact hset) (fun k hk => .inl hk) (fun k hk hkn => hother k fun e3 => hkn (e3 ▸ Tr.own_block rfl))
            rw [hz] at hz'
            injection hz' with hz'
            subst hz'
            rw [Tr.put_get hg] at ho'
            exact ho'
          · cases hk
        · cases hk
    · cases hk
  · cases hk
end
end Go.Proofs.Ytckieogkaodkdaa.V
