/- Slots that hold slices of the call's own; every operation leads on to what it comes to. -/
import Derived.Test.YtckieogkaodkdaaWk
set_option linter.unusedVariables false
set_option linter.unusedSimpArgs false
namespace Go.Proofs.Ytckieogkaodkdaa.V
open Go Go.RowKit

section
variable {P : Program} {E : Env} {w0 : World} {io : Nat → Prop} {S : St} {g : GM} {a : Act} {w : World} {ok : Nat → Prop} {m : Nat → ME}
/-- References behind a drop. -/
theorem R3.dropped {x : AV} {v : Value} (d : Nat) (h : R3 w (okOf w m g) m g x v) : R3 w (okOf w (dropM d m).m g) (dropM d m).m g ((dropM d m).f x) v := by
  refine R3.lift (f := dropF d) (fun y u hy => ?_) h
  have hbl : ∀ j k, k ∈ blks ((dropM d m).m j) (g j) → k ∈ blks (m j) (g j) := fun j k hk => (KM.drop d j m).blks hk
  unfold dropF
  cases hh : y.has d with
  | true => exact trivial
  | false =>
    have hne : ∀ j, y.id? = some j → j ≠ d := fun j hj e => by rw [e] at hj; rw [has_iff.2 hj] at hh; cases hh
    exact R0.sim (fun k hk => ⟨⟨hk.1, hk.2.1, fun j hj => hk.2.2 j (hbl j k hj)⟩, rfl⟩) (fun j hj => Sim.lift (f := dropF d) (drop_other _ (hne j hj)) rfl) hy
theorem R3.droppedIn {v : Value} : ∀ (l : List Nat) {m : Nat → ME} {x : AV}, R3 w (okOf w m g) m g x v → R3 w (okOf w (dropInM l m).m g) (dropInM l m).m g ((dropInM l m).f x) v
  | [], _, _, h => h
  | d :: l, m, x, h => R3.droppedIn l (h.dropped d)
theorem drop_nil {d T : Nat} {e : ET} {y : AV} (h : lift1 (dropF d) y = .nilS T e) : y = .nilS T e := by
  have key : ∀ z : AV, dropF d z = .nilS T e → z = .nilS T e := fun z hz => by
    unfold dropF at hz
    cases hb : z.has d <;> rw [hb] at hz
    · exact hz
    · cases hz
  cases y <;> first | exact key _ h | skip
  rename_i F l
  simp only [lift1] at h
  generalize (l.map (dropF d)).all AV.isCap = b at h
  cases b <;> cases h
/-- What is an aggregate stays one; nothing becomes nil that was not. -/
theorem drop_agg (d : Nat) (m : Nat → ME) (l : List AV) : ∃ l', (dropM d m).f (.agg l) = .agg l' ∧ ∀ (i : Nat) T e, l'[i]? = some (.nilS T e) → l[i]? = some (.nilS T e) := by
  refine ⟨l.map (lift1 (dropF d)), rfl, fun i T e hi => ?_⟩
  rw [List.getElem?_map] at hi
  obtain ⟨y, hy, hyx⟩ := Option.map_eq_some_iff.1 hi
  rw [hy, drop_nil hyx]
theorem dropIn_agg : ∀ (ns : List Nat) (m : Nat → ME) (l : List AV), ∃ l', (dropInM ns m).f (.agg l) = .agg l' ∧ ∀ (i : Nat) T e, l'[i]? = some (.nilS T e) → l[i]? = some (.nilS T e)
  | [], _, l => ⟨l, rfl, fun _ _ _ h => h⟩
  | d :: ns, m, l => by
    obtain ⟨l1, h1, h2⟩ := drop_agg d m l
    obtain ⟨l2, h3, h4⟩ := dropIn_agg ns (dropM d m).m l1
    refine ⟨l2, ?_, fun i T e hi => h2 i T e (h4 i T e hi)⟩
    show (dropInM ns (dropM d m).m).f ((dropM d m).f (.agg l)) = _
    rw [h1, h3]

theorem mark_ok {o : Oper} {d dp : Nat} (hd : o.dst = some d) {V : Value} {x : AV} (h : SR w0 io E.ntmps S g a w) (hV : R3 w (okOf w S.m g) S.m g x V) {F : Eff} (hk : markK E S.m d dp x some = some F) :
    ∃ g', SR w0 io E.ntmps (S.app o.dst F) g' (a.put o.dst V) w ∧ Kept E.nio S g (S.app o.dst F) g' := by
  rw [hd]
  have plain : ∃ g', SR w0 io E.ntmps (S.app (some d) ⟨some x, .nil S.m⟩) g' (a.put (some d) V) w ∧ Kept E.nio S g (S.app (some d) ⟨some x, .nil S.m⟩) g' :=
    ⟨g, SR.put h d x V hV, .of_m rfl⟩
  unfold markK at hk
  split at hk
  · rename_i T e
    rcases cond_some hk with ⟨hn, hk⟩ | ⟨_, hk⟩
    rotate_left
    · cases hk
    injection hk with hk
    subst hk
    have hV : V = .slice none 0 0 := hV
    subst hV
    exact h.newObj (More.refl w) (own_nil w _ T dp e) (fun k hk => (nil_blocks hk).elim) (Nat.le_of_ble_eq_true hn)
  · rename_i id
    rcases cond_some hk with ⟨hn, hk⟩ | ⟨_, hk⟩
    · injection hk with hk
      subst hk
      simp only [Bool.and_eq_true] at hn
      have h1 := SR.put h d (.ref id []) V hV
      obtain ⟨g', h2, h3⟩ := h1.ren id d (Nat.le_of_ble_eq_true hn.1)
      rw [set_act] at h2 h3
      exact ⟨g', h2, (Kept.of_m (S' := S.set d (.ref id [])) rfl).trans h3⟩
    · injection hk with hk
      subst hk
      exact plain
  · rename_i l
    rcases cond_some hk with ⟨hn, hk⟩ | ⟨_, hk⟩
    rotate_left
    · cases hk
    have hn := Nat.le_of_ble_eq_true hn
    injection hk with hk
    subst hk
    generalize hnn : nilNames d dp 0 l = nn at *
    have hnm : ∀ p ∈ nn, (∃ i, p.1 = nameOf d (i + 1)) ∧ ∃ T e dp, p.2 = .obj T e dp [] := fun p hp => by
      rw [← hnn] at hp
      obtain ⟨⟨i, _, h1⟩, h2⟩ := nilNames_mem hp
      exact ⟨⟨i, h1⟩, h2⟩
    have h1 := h.dropIn (nn.map (·.1))
    obtain ⟨g1, h2, h3, h4, h5, h6, h7⟩ := h1.putNil nn (fun p hp => ⟨dropIn_none (List.mem_map.2 ⟨p, hp, rfl⟩), (hnm p hp).2⟩) (by rw [← hnn]; exact nilNames_nodup) (nio := E.nio) fun p hp => by
      obtain ⟨⟨i, h1⟩, _⟩ := hnm p hp
      rw [h1]; unfold nameOf; omega
    have hV1 := hV.droppedIn (nn.map (·.1))
    obtain ⟨l', e1, e2⟩ := dropIn_agg (nn.map (·.1)) S.m l
    rw [e1] at hV1
    obtain ⟨vs, hv, hall⟩ := hV1
    refine ⟨g1, SR.put h2 d (reNil d ((dropInM (nn.map fun (p : Nat × ME) => p.1) S.m).f (.agg l))) V ?_, ((Kept.dropIn S g _).trans h3).trans (.of_m rfl)⟩
    rw [e1]
    refine ⟨vs, hv, nilCells_ok (l0 := l) (dp := dp) e2 (fun p hp => by rw [hnn] at hp; exact h4 p hp) (hall.mono fun y u hy => R1.map0 (fun y u hy => R0.sim h7 (fun j hj => ?_) hy) hy)⟩
    refine Sim.of_eq (putL_other fun p hp he => ?_) (h6 j fun p hp he => ?_)
    · exact R0.live hy hj (by rw [← he]; exact dropIn_none (List.mem_map.2 ⟨p, hp, rfl⟩))
    · exact R0.live hy hj (by rw [← he]; exact dropIn_none (List.mem_map.2 ⟨p, hp, rfl⟩))
  · injection hk with hk
    subst hk
    exact plain

theorem wrap_ok (h : SR w0 io E.ntmps S g a w) {o : Oper} {d T : Nat} {n' : Nat} {parts : Array (Nat × Operand)} (hd : o.dst = some d) (ho : o.op = .buildSlice T n' parts) (hty : TyOK P T (E.ty T)) (hkd : ∃ e, (E.ty T).kind = .sl e) (hel : TyOK P (E.ty T).elem (E.ty (E.ty T).elem))
    {i : Nat} {x : Operand} (hps : parts.toList = [(i, x)]) (hi : i = 0) (hn1 : n' = 1) (hsz : (E.ty (E.ty T).elem).sz = 1) {r T1 d1 dp : Nat} {e1 : ET} {zs : List e1.ty} (hx : S.ev E (E.ty T).elem x = .ref r []) (hmr : S.m r = .obj T1 e1 d1 zs)
    (hdp : dp = d1 + 1) (hnio : E.nio ≤ d) (hne : r ≠ d) : Does P E w0 io S g a w o ⟨some (.ref d []), wrapM d r (E.ty T).elem T1 e1 dp zs S.m⟩ := by
  intro K Q hK
  have hX := ev_ok h (E.ty T).elem x
  rw [hx] at hX
  obtain ⟨_, nx, kx, hgx⟩ := hX
  simp only [Tr.get, Option.some.injEq] at hgx
  have hMr := h.mem r
  rw [hmr] at hMr
  have hMr : Own w (okOf w S.m g) (d1 + 1) (.sl T1 e1) zs (g r).tr (g r).tr.v := hMr
  rw [hgx] at hMr
  have hMr : Own w (okOf w S.m g) (d1 + 1) (.sl T1 e1) zs (.nd (a.eval x) nx kx) (a.eval x) := hMr
  have hone := hMr.one
  have hcl := cells_of_one hone
  subst hi; subst hn1
  obtain ⟨el, hkd⟩ := hkd
  have hTu : P.underlying T = some (.slice (E.ty T).elem) := by have := hty.slice hkd; simp only [TI.elem, hkd]; exact this
  generalize hEl : (E.ty T).elem = el' at *
  obtain ⟨z, hz, _⟩ := hel.zeroV
  have hrun : (execOp a.eval o).run P w = .ok (.value (.slice (some ⟨w.heap.size, 0, none⟩) 1 1)) (w.alloc (.cells #[a.eval x] el')) := by
    have hsz1 : (a.eval x).cells.size = 1 := by rw [← Array.length_toList, hcl]; rfl
    have e1 : (parts.map fun p => (p.1, a.eval p.2)).toList = [(0, a.eval x)] := by simp [hps]
    have hnb : ¬ ((1 : Nat) * 1 > 2 ^ 24) := by decide
    have hn0 : ¬ ((1 : Nat) * 1 = 0) := by decide
    obtain ⟨cs', h1, h2⟩ := fill_all (sz := 1) [a.eval x] 0 ((Array.range (1 * 1)).map fun i => z.cells[i % z.cells.size]!) (by intro v hv; simp at hv; subst hv; exact hsz1) (by simp)
    have h3 : cs' = #[a.eval x] := by
      apply Array.toList_inj.1
      rw [h2]
      simp [hcl]
    subst h3
    simp only [execOp, ho, Instr.buildSlice, Sem.run_bind, run_underlying hTu, hel.size, hsz, Result.andThen_ok, hnb, if_false, hn0, hz, Sem.run_pure, e1]
    have e2 : (List.zip (List.range' 0 1) [a.eval x]) = [(0, a.eval x)] := rfl
    simp only [List.zipIdx_cons, List.zipIdx_nil, List.map_cons, List.map_nil] at h1
    first
      | rw [h1]
      | (simp at h1; rw [h1])
    simp [newRow]
  have hmore := More.alloc w (.cells #[a.eval x] el')
  unfold Oper.wp
  rw [hrun, Oper.upon_value, hd]
  rw [hd] at hK
  generalize hV : Value.slice (some ⟨w.heap.size, 0, none⟩) 1 1 = V at *
  have hVb : V.ownBlock = some w.heap.size := by rw [← hV]; rfl
  generalize hw' : w.alloc (.cells #[a.eval x] el') = w' at *
  have hsz' : w'.heap.size = w.heap.size + 1 := by rw [← hw']; simp
  generalize hm3 : upd (upd (fun i => liftM (wrapF d r) (S.m i)) r .none) d (.obj el' (.sl T1 e1) dp [zs]) = m3 at *
  have hMo : wrapM d r el' T1 e1 dp zs S.m = ⟨lift3 (wrapF d r), m3, [d, r]⟩ := by rw [← hm3]; rfl
  rw [hMo] at hK
  have hmid : m3 d = .obj el' (.sl T1 e1) dp [zs] := by subst hm3; simp [upd]
  have hmrr : m3 r = .none := by subst hm3; simp [upd, beq_ne hne]
  have hmj : ∀ j, j ≠ d → j ≠ r → m3 j = liftM (wrapF d r) (S.m j) := fun j e1 e2 => by subst hm3; simp [upd, beq_ne e1, beq_ne e2]
  generalize hG : (⟨0, .nd V 1 fun _ => (g r).tr⟩ : GE) = G
  have hGt : G.tr = .nd V 1 fun _ => (g r).tr := by subst hG; rfl
  have hbr : ∀ k, k ∈ (g r).tr.blocks → k ∈ blks (S.m r) (g r) := fun k hk => by rw [hmr]; exact hk
  have hbG : ∀ k, k ∈ G.tr.blocks → k ∈ blks (S.m r) (g r) ∨ (w.heap.size ≤ k ∧ k < w'.heap.size) := fun k hk => by
    rw [hGt] at hk
    rcases Tr.mem_nd.1 hk with hk | ⟨i, _, hk⟩
    · rw [hVb] at hk; injection hk with hk; exact .inr ⟨by omega, by omega⟩
    · exact .inl (hbr k hk)
  have hb3 : ∀ j k, k ∈ blks (m3 j) ((g.put d G) j) → (j = d ∧ (k ∈ blks (S.m r) (g r) ∨ (w.heap.size ≤ k ∧ k < w'.heap.size))) ∨ (j ≠ d ∧ j ≠ r ∧ k ∈ blks (S.m j) (g j)) := fun j k hkb' => by
    by_cases e1 : j = d
    · subst e1
      rw [hmid, GM.put_self] at hkb'
      exact .inl ⟨rfl, hbG k hkb'⟩
    · by_cases e2 : j = r
      · subst e2; rw [hmrr] at hkb'; cases hkb'
      · rw [hmj j e1 e2, GM.put_ne g _ e1, blks_lift] at hkb'; exact .inr ⟨e1, e2, hkb'⟩
  have hstep := h.step (m' := m3) (g' := g.put d G) (w' := w') (fun _ => False) (f := wrapF d r) hmore.os hmore.tape hmore.output hmore.size (fun k hk _ => hmore.same k hk) (fun j k hk => by
      rcases hb3 j k hk with ⟨_, h3 | h3⟩ | ⟨_, _, h3⟩
      · exact .inl ⟨_, h3⟩
      · exact .inr h3
      · exact .inl ⟨_, h3⟩) (fun j j' k hk hk' => by
      rcases hb3 j k hk with ⟨e1, h3⟩ | ⟨e1, e2, h3⟩ <;> rcases hb3 j' k hk' with ⟨e3, h4⟩ | ⟨e3, e4, h4⟩
      · rw [e1, e3]
      · rcases h3 with h3 | h3
        · exact absurd (h.disj _ _ k h4 h3) e4
        · have := (h.own _ k h4).1; omega
      · rcases h4 with h4 | h4
        · exact absurd (h.disj _ _ k h3 h4) e2
        · have := (h.own _ k h3).1; omega
      · exact h.disj _ _ k h3 h4) rfl fun hx' => ⟨fun y v0 hr0 => ?_, fun hf j => ?_⟩
  · refine hK _ _ _ (SR.put (S := ⟨fun i => lift3 (wrapF d r) (S.t i), m3⟩) hstep.1 d (.ref d []) V ⟨⟨el', .sl T1 e1, dp, [zs], hmid⟩, ?_⟩) ⟨fun _ h => h, fun i hi => ?_⟩
    · rw [GM.put_self]; simp only [Tr.get]; rw [hGt]; exact ⟨_, _, rfl⟩
    · have e' : i ≠ d := by omega
      refine ⟨fun _ => GM.put_ne g _ e', ?_⟩
      show KM (S.m i) (m3 i)
      by_cases e2 : i = r
      · rw [e2, hmrr]; exact .inl rfl
      · rw [hmj i e' e2]; exact KM.lift ..
  · -- references
    have hkids : ∀ q s, (g r).tr.get q = some s → G.tr.get (0 :: q) = some s := fun q s hs => by rw [hGt]; simp only [Tr.get]; rw [if_pos Nat.zero_lt_one]; exact hs
    have other : ∀ {y : AV} {id : Nat}, y.id? = some id → id ≠ d → id ≠ r → R0 w' (okOf w' m3 (g.put d G)) m3 (g.put d G) y v0 ∨ ¬ R0 w (okOf w S.m g) S.m g y v0 := fun {y id} hid h1 h2 => by
      by_cases hr : R0 w (okOf w S.m g) S.m g y v0
      · refine .inl (R0.sim hx' (fun j hj => ?_) hr)
        rw [hid] at hj; injection hj with hj; subst hj
        exact Sim.lift (f := wrapF d r) (hmj _ h1 h2) (GM.put_ne g _ h1)
      · exact .inr hr
    cases y with
    | ref j q =>
      simp only [wrapF]
      by_cases e1 : j = r
      · subst e1
        simp only [beq_self, cond_true]
        obtain ⟨_, n2, k2, h2⟩ := hr0
        exact ⟨⟨_, _, _, _, hmid⟩, n2, k2, by rw [GM.put_self]; exact hkids q _ h2⟩
      · by_cases e2 : j = d
        · subst e2; simp only [beq_ne e1, beq_self, cond_true, cond_false]; trivial
        · simp only [beq_ne e1, beq_ne e2, cond_false]
          exact (other (y := .ref j q) rfl e2 e1).resolve_right fun hn => hn hr0
    | eptr j q i =>
      simp only [wrapF]
      by_cases e1 : j = r
      · subst e1
        simp only [beq_self, cond_true]
        rcases hr0 with ⟨_, b, c, n2, k2, h2, h3, h4⟩ | ⟨_, ⟨e, n, xs, h2, _⟩, _⟩
        · exact .inl ⟨⟨_, _, _, _, hmid⟩, b, c, n2, k2, by rw [GM.put_self]; exact hkids q _ h2, h3, h4⟩
        · rw [hmr] at h2; cases h2
      · by_cases e2 : j = d
        · subst e2; simp only [beq_ne e1, beq_self, cond_true, cond_false]; trivial
        · simp only [beq_ne e1, beq_ne e2, cond_false]
          exact (other (y := .eptr j q i) rfl e2 e1).resolve_right fun hn => hn hr0
    | ptr j off =>
      simp only [wrapF]
      by_cases e2 : j = d
      · subst e2; simp only [beq_self, cond_true]; trivial
      · by_cases e1 : j = r
        · subst e1
          obtain ⟨_, ⟨l, h2⟩ | ⟨e, n, xs, h2⟩⟩ := hr0 <;> rw [hmr] at h2 <;> cases h2
        · simp only [beq_ne e2, cond_false]
          exact (other (y := .ptr j off) rfl e2 e1).resolve_right fun hn => hn hr0
    | d e x => exact R0.sim hx' (fun j hj => by cases hj) hr0
    | arr e n xs => exact R0.sim hx' (fun j hj => by cases hj) hr0
    | agg l => exact R0.sim hx' (fun j hj => by cases hj) hr0
    | tup l => exact R0.sim hx' (fun j hj => by cases hj) hr0
    | fn f l => exact R0.sim hx' (fun j hj => by cases hj) hr0
    | iptr l => exact R0.sim hx' (fun j hj => by cases hj) hr0
    | nilS T e => exact R0.sim hx' (fun j hj => by cases hj) hr0
    | nilI => exact R0.sim hx' (fun j hj => by cases hj) hr0
    | skip => exact R0.sim hx' (fun j hj => by cases hj) hr0
    | undef => trivial
  · by_cases e1 : j = d
    · subst e1
      rw [hmid, GM.put_self]
      show Own w' _ (dp + 1) (.sl el' (.sl T1 _)) [zs] G.tr G.tr.v
      rw [hGt]
      show Own w' _ (dp + 1) (.sl el' (.sl T1 _)) [zs] (.nd V 1 fun _ => (g r).tr) V
      refine ⟨1, _, [a.eval x], rfl, rfl, ?_, fun i y0 c0 hi hc => ?_, fun i hi k hk => ?_, fun i i' k hi hi' _ _ => by omega⟩
      · rw [← hV, ← hw']
        exact ⟨by simp, .inr ⟨w.heap.size, 1, #[a.eval x], rfl, Nat.zero_le _, heap_alloc_new w _, Nat.le_refl _, (by unfold maxLen; omega), by simp, by simp⟩⟩
      · obtain rfl : i = 0 := by
          have := (List.getElem?_eq_some_iff.1 hi).1
          simpa using this
        simp only [List.getElem?_cons_zero, Option.some.injEq] at hi hc
        subst hi; subst hc
        subst hdp
        rw [hgx]
        exact Own.mono hx' (fun k hk => hmore.same k (h.own r k (hbr k (by rw [hgx]; exact hk))).1) hMr
      · rw [hVb]
        intro he
        injection he with he
        have := (h.own r k (hbr k hk)).1
        omega
    · by_cases e2 : j = r
      · subst e2; rw [hmrr]; trivial
      · rw [hmj j e1 e2, GM.put_ne g _ e1]
        exact MR.lift hx' hf (fun k hk => hmore.same k (h.own j k hk).1) (h.mem j)

theorem new_ok (hT : ∀ t, (E.ty t).known = true → TyOK P t (E.ty t)) (hc : ∀ f, CallOK P f (E.calls f)) (h : SR w0 io E.ntmps S g a w) {o : Oper} {d dp : Nat} (hd : o.dst = some d) (hkn : known E (opTys E o.op) = true) {F : Eff}
    (hk : newK E (S.ev E) S.m o.type o.op d dp some = some F) : Does P E w0 io S g a w o F := by
  have lays : ∀ {S1 : St} {T : Nat} {e : ET} {xs : List e.ty} {A : Mo}, SR w0 io E.ntmps S1 g a w → Kept E.nio S g S1 g → YieldsOwn P S1 g a w o T e dp xs → E.nio ≤ d → S.app o.dst ⟨some (.ref d []), A⟩ = (S1.act (newObjM d T e dp xs S1.m)).set d (.ref d []) → Does P E w0 io S g a w o ⟨some (.ref d []), A⟩ := by
    intro S1 T e xs A h1 hkp ⟨V, w', t, hrun, hmore, how, hbl⟩ hn happ K Q hK
    unfold Oper.wp
    rw [hrun, Oper.upon_value]
    rw [happ] at hK
    obtain ⟨g', h2, h3⟩ := h1.newObj hmore how hbl hn
    rw [hd]
    exact hK _ _ _ h2 (hkp.trans h3)
  have marks : (valK E (S.ev E) S.m o.type o.op fun v => markK E S.m d dp v some) = some F → Does P E w0 io S g a w o F := by
    intro hk
    obtain ⟨x, hx, hk⟩ := valK_some hk
    have hy := val_ok hT hc h hkn hx
    intro K Q hK
    refine hy K Q fun V w' hm hr => ?_
    obtain ⟨g', h1, h2⟩ := mark_ok hd (h.more hm) hr hk
    exact hK _ _ _ h1 h2
  have hTy : ∀ t ∈ opTys E o.op, TyOK P t (E.ty t) := fun t ht => hT t (List.all_eq_true.1 hkn t ht)
  unfold newK at hk
  split at hk
  · rename_i T l c hop
    obtain ⟨x, hx, hk⟩ := valK_some hk
    split at hk
    · rename_i T' e xs
      rcases cond_some hk with ⟨hb, hk⟩ | ⟨_, hk⟩
      rotate_left
      · cases hk
      simp only [Bool.and_eq_true] at hb
      injection hk with hk
      subst hk
      exact lays h (.refl _ _) (own_ok hT h hkn hx (.inl ⟨_, _, _, hop⟩) (beq_true hb.2)) (Nat.le_of_ble_eq_true hb.1) (by rw [hd]; rfl)
    · cases hk
  · rename_i T n parts hop
    rcases cond_some hk with ⟨_, hk⟩ | ⟨_, hk⟩
    · simp only at hk
      have hev := ev_act S E (calm_freezeIn (toFreeze E (S.ev E) o.op) S.m)
      rw [hev] at hk
      obtain ⟨x, hx, hk⟩ := valK_some hk
      split at hk
      · rename_i T' e xs
        rcases cond_some hk with ⟨hb, hk⟩ | ⟨_, hk⟩
        rotate_left
        · cases hk
        simp only [Bool.and_eq_true, Bool.or_eq_true, Bool.not_eq_true'] at hb
        injection hk with hk
        subst hk
        have h1 := h.freezeIn (toFreeze E (S.ev E) o.op)
        exact lays h1 (Kept.freezeIn S g _) (own_ok hT h1 hkn hx (.inr ⟨⟨_, _, _, hop⟩, hb.2.imp (fun h => beq_true h) fun h => h⟩) (beq_true hb.1.2)) (Nat.le_of_ble_eq_true hb.1.1) (by rw [hd]; rfl)
      · cases hk
    · split at hk
      · rename_i i x hps
        split at hk
        · rename_i r hx
          split at hk
          · rename_i T1 e1 d1 zs hmr
            rcases cond_some hk with ⟨hb, hk⟩ | ⟨_, hk⟩
            rotate_left
            · cases hk
            simp only [Bool.and_eq_true, Bool.not_eq_true'] at hb
            injection hk with hk
            subst hk
            obtain ⟨⟨⟨⟨⟨⟨hn, hi⟩, hn1⟩, hdp⟩, hsz⟩, hsl⟩, hrd⟩ := hb
            rw [hop] at hTy
            exact wrap_ok h hd hop (hTy _ (by simp [opTys])) (isSl_iff hsl) (hTy _ (by simp [opTys])) hps (beq_true hi) (beq_true hn1) (beq_true hsz) hx hmr (beq_true hdp) (Nat.le_of_ble_eq_true hn) (fun e => by rw [e, beq_self] at hrd; cases hrd)
          · cases hk
        · cases hk
      · cases hk
  · exact marks hk

/-- Every operation leads on to what it comes to. -/
theorem eff_ok (hT : ∀ t, (E.ty t).known = true → TyOK P t (E.ty t)) (hc : ∀ f, CallOK P f (E.calls f)) (h : SR w0 io E.ntmps S g a w) {o : Oper} (hkn : known E (opTys E o.op) = true) {F : Eff}
    (hk : effK E (S.ev E) S.m o some = some F) : Does P E w0 io S g a w o F := by
  have hTy : ∀ t ∈ opTys E o.op, TyOK P t (E.ty t) := fun t ht => hT t (List.all_eq_true.1 hkn t ht)
  have vals : ∀ {S1 : St} {x : AV} {A : Mo}, SR w0 io E.ntmps S1 g a w → Kept E.nio S g S1 g → valK E (S1.ev E) S1.m o.type o.op some = some x → (∀ d, o.dst = some d → S.app o.dst ⟨some x, A⟩ = S1.set d x) → (o.dst = none → S.app o.dst ⟨some x, A⟩ = S1) → Does P E w0 io S g a w o ⟨some x, A⟩ := by
    intro S1 x A h1 hkp hv ha hb K Q hK
    refine val_ok hT hc h1 hkn hv K Q fun V w' hm hr => ?_
    cases hd : o.dst with
    | none =>
      rw [hb hd] at hK
      exact hK _ _ _ (h1.more hm) hkp
    | some d =>
      rw [ha d hd] at hK
      exact hK _ _ _ (SR.put (h1.more hm) d x V hr) (hkp.trans (.of_m rfl))
  have hk0 := hk
  unfold effK at hk
  split at hk
  · rename_i T hop
    rw [hop] at hTy
    split at hk
    · rename_i d hd
      exact d_alloc h (hTy _ (by simp only [opTys]; cases (E.ty T).isArr <;> simp)) (fun har => hTy _ (by simp [opTys, har])) hop hd hk0
    · cases hk
  · rename_i T x hop
    split at hk
    · rename_i d hd; exact d_box h hop hd hk0
    · cases hk
  · rename_i T x y hop
    rw [hop] at hTy
    split at hk
    · rename_i hd; exact d_store h (hTy _ (by simp [opTys])) hop hd hk
    · cases hk
  · rename_i c hop
    split at hk
    · rename_i f hcal
      split at hk
      · rename_i id caps hf
        rcases cond_some hk with ⟨_, hk⟩ | ⟨hlen, hk⟩
        · cases hk
        simp only [Bool.not_eq_false'] at hlen
        have hF := ev_ok h 0 f
        rw [hf] at hF
        obtain ⟨vs, hv, hcaps⟩ := hF
        intro K Q hK
        unfold Oper.wp
        rw [call_run hcal hop hv]
        refine callK_ok hc h (call_args h (Nat.le_of_ble_eq_true hlen) hcaps) hk o a K Q fun v w' ⟨F', g', hF', h1, h2⟩ => ?_
        injection hF' with hF'
        subst hF'
        exact hK _ _ _ h1 h2
      · cases hk
    · rename_i hcal
      split at hk
      · rename_i x y t0 t1 d ha ht hd
        rcases cond_some hk with ⟨hb, hk⟩ | ⟨_, hk⟩
        · rw [hop] at hTy
          have e : c.argTypes.toList[0]? = some t0 := by rw [ht]; rfl
          refine d_append h (t0 := t0) (t1 := t1) (hTy _ ?_) (hTy _ ?_) hop hcal ha ht (beq_true hb) hd hk
          · simp [opTys, hcal, e]
          · simp [opTys, hcal, e]
        · cases hk
      · cases hk
    · obtain ⟨x, hx, hk⟩ := valK_some hk
      injection hk with hk
      subst hk
      exact vals h (.refl _ _) hx (fun d hd => by rw [hd]; rfl) fun hd => by rw [hd]; rfl
  · split at hk
    · rename_i d hd
      split at hk
      · exact new_ok hT hc h hd hkn hk
      · simp only at hk
        have hev := ev_act S E (calm_freezeIn (toFreeze E (S.ev E) o.op) S.m)
        rw [hev] at hk
        obtain ⟨x, hx, hk⟩ := valK_some hk
        injection hk with hk
        subst hk
        exact vals (h.freezeIn (toFreeze E (S.ev E) o.op)) (Kept.freezeIn S g _) hx (fun d' hd' => by rw [hd']; rfl) fun hd' => by rw [hd] at hd'; cases hd'
    · rename_i hd
      obtain ⟨x, hx, hk⟩ := valK_some hk
      injection hk with hk
      subst hk
      intro K Q hK
      refine val_ok hT hc h hkn hx K Q fun V w' hm hr => ?_
      rw [hd] at hK ⊢
      exact hK _ _ _ (h.more hm) (.refl _ _)
end
end Go.Proofs.Ytckieogkaodkdaa.V
