/- Appending; slots that are marked; whatever an operation does. -/
import Derived.Test.YtckieogkaodkdaaWj
set_option linter.unusedVariables false
set_option linter.unusedSimpArgs false
namespace Go.Proofs.Ytckieogkaodkdaa.V
open Go Go.RowKit

section
variable {P : Program} {E : Env} {w0 : World} {io : Nat → Prop} {S : St} {g : GM} {a : Act} {w : World}
theorem asL_some {e : ET} {x : AV} {ys : List e.ty} (h : asL e x = some ys) : ∃ T, nrm x = .d (.sl T e) ys := by
  unfold asL at h
  split at h
  · rename_i T e' z
    split at h
    · rename_i he
      subst he
      simp only [Option.some.injEq] at h
      subst h
      exact ⟨T, rfl⟩
    · cases h
  · rename_i T e'
    split at h
    · rename_i he
      subst he
      simp only [Option.some.injEq] at h
      subst h
      exact ⟨T, rfl⟩
    · cases h
  · cases h
theorem news_of {ok : Nat → Prop} {e : ET} {ad : Addr} (h1 : e.sz = 1) : ∀ (ys : List e.ty) (k : Nat), (∀ (i : Nat) (x : e.ty), ys[i]? = some x → ∃ vs, Rd w ok e x vs ∧ ∀ j u, vs[j]? = some u → w.cell? (ad.add (k + i + j)) = some u) →
    ∃ news, All2 (fun x c => Rd w ok e x [c]) ys news ∧ ∀ j u, news[j]? = some u → w.cell? (ad.add (k + j)) = some u
  | [], k, _ => ⟨[], .nil, fun j u hj => by simp at hj⟩
  | y :: ys, k, h => by
    obtain ⟨vs, hr, hv⟩ := h 0 y rfl
    have hl := hr.len
    rw [h1] at hl
    match vs, hl with
    | [c], _ =>
      obtain ⟨news, h2, h3⟩ := news_of h1 ys (k + 1) fun i x hi => by
        obtain ⟨vs, hr, hv⟩ := h (i + 1) x (by simpa using hi)
        exact ⟨vs, hr, fun j u hj => by rw [show k + 1 + i + j = k + (i + 1) + j by omega]; exact hv j u hj⟩
      refine ⟨c :: news, .cons hr h2, fun j u hj => ?_⟩
      cases j with
      | zero => simp at hj; subst hj; have := hv 0 c rfl; simpa using this
      | succ j => simp at hj; rw [show k + (j + 1) = k + 1 + j by omega]; exact h3 j u hj
/-- A slice's value and its elements' cells. -/
theorem list_cells (h : SR w0 io E.ntmps S g a w) {e : ET} (h1 : e.sz = 1) {y : AV} {V : Value} (hr : R3 w (okOf w S.m g) S.m g y V) {ys : List e.ty} (hl : listK S.m e y = some ys) :
    ∃ A c, V = .slice A ys.length c ∧ (ys = [] ∨ ∃ ad news, A = some ad ∧ All2 (fun x c => Rd w (okOf w S.m g) e x [c]) ys news ∧ ∀ j u, news[j]? = some u → w.cell? (ad.add j) = some u) := by
  have plain : ∀ T, R3 w (okOf w S.m g) S.m g (.d (.sl T e) ys) V → ∃ A c, V = .slice A ys.length c ∧ (ys = [] ∨ ∃ ad news, A = some ad ∧ All2 (fun x c => Rd w (okOf w S.m g) e x [c]) ys news ∧ ∀ j u, news[j]? = some u → w.cell? (ad.add j) = some u) := by
    rintro T ⟨A, n, c, hv, hn, _, hc⟩
    simp only [List.cons.injEq, and_true] at hv
    refine ⟨A, c, by rw [hv, hn], ?_⟩
    cases A with
    | none =>
      refine .inl ?_
      cases hys : ys with
      | nil => rfl
      | cons y l => obtain ⟨ad, _, h2, _⟩ := hc 0 y (by rw [hys]; rfl); cases h2
    | some ad =>
      refine .inr ⟨ad, ?_⟩
      obtain ⟨news, h2, h3⟩ := news_of (w := w) (ok := okOf w S.m g) (ad := ad) h1 ys 0 fun i x hi => by
        obtain ⟨ad', vs, h4, _, h5, h6⟩ := hc i x hi
        injection h4 with h4; subst h4
        exact ⟨vs, h5, fun j u hj => by have := h6 j u hj; rwa [h1, Nat.mul_one, ← Nat.zero_add (i + j), ← Nat.add_assoc] at this⟩
      exact ⟨news, rfl, h2, fun j u hj => by have := h3 j u hj; rwa [Nat.zero_add] at this⟩
  unfold listK at hl
  split at hl
  · rename_i id q
    split at hl
    · rename_i T0 e0 dp xs hm
      split at hl
      · rename_i T' e' zs hp
        split at hl
        · rename_i he
          subst he
          rcases cond_some hl with ⟨hfl, hl⟩ | ⟨_, hl⟩
          rotate_left
          · cases hl
          simp only [Option.some.injEq] at hl
          subst hl
          simp only [Bool.or_eq_true, Bool.not_eq_true'] at hfl
          obtain ⟨_, n, kids, hg⟩ := hr
          have hM := h.mem id
          rw [hm] at hM
          obtain ⟨T2, e2, ys2, h2, h3, h4⟩ := Own.get q hM hg
          rw [hp] at h2
          injection h2 with h2
          cases h2
          have hd : dp + 1 - q.length = (dp - q.length) + 1 := by omega
          rw [hd] at h4
          obtain ⟨cs, ho, hc⟩ := Own.flat_inv h4 (hfl.imp (fun h => by have := Nat.le_of_ble_eq_true h; omega) (fun h => h))
          rcases ho.2 with ⟨h2, h3⟩ | ⟨b, cap, cur, h2, _, hh, _⟩
          · refine ⟨none, 0, by rw [h2, h3], .inl (List.eq_nil_of_length_eq_zero h3)⟩
          · refine ⟨some ⟨b, 0, none⟩, cap, h2, .inr ⟨_, cs, rfl, hc, ?_⟩⟩
            exact fun j u hj => ho.cells (g := b) (by rw [h2]; rfl) j u hj
        · cases hl
      · cases hl
    · cases hl
  · obtain ⟨T, hT⟩ := asL_some hl
    exact plain T (hT ▸ R3.nrm hr)
theorem run_append_zero {t0 ty T : Nat} {i : TypeInfo} (ht : P.underlying t0 = some (.slice T)) (hi : P.info? T = some i) {v : Value} {n : Nat} {cs : List Value} (ho : w.ownsRow 0 T 1 v n cs) (A : Option Addr) (c : Nat) :
    (Builtin.append_ #[t0, t0] ty #[v, .slice A 0 c]).run P w = .ok v w := by
  rcases ho.2 with ⟨rfl, rfl⟩ | ⟨b, cap, cur, rfl, _, hh, hnc, _⟩
  · cases A <;> simp [Builtin.append_, run_underlying ht, sizeOf, typeInfo, run_program', hi, Builtin.lenOf, Builtin.firstCells, Go.loadCells, Go.loadCellsFrom]
  · cases A <;> simp [Builtin.append_, run_underlying ht, sizeOf, typeInfo, run_program', hi, Builtin.lenOf, Builtin.firstCells, Go.loadCells, Go.loadCellsFrom, hnc, storeCells]
theorem d_append (h : SR w0 io E.ntmps S g a w) {o : Oper} {c : Call} {x y : Operand} {t0 t1 d : Nat} (hT : TyOK P t0 (E.ty t0)) (hel : TyOK P (E.ty t0).elem (E.ty (E.ty t0).elem)) (ho : o.op = .call c) (hcal : c.callee = .builtin .append) (hargs : c.args.toList = [x, y]) (htys : c.argTypes.toList = [t0, t1]) (ht1 : t1 = t0) (hd : o.dst = some d) {F : Eff}
    (hk : appendK E S.m t0 (S.ev E t0 x) (S.ev E t1 y) some = some F) : Does P E w0 io S g a w o F := by
  intro K Q hK
  have hX := ev_ok h t0 x
  have hY := ev_ok h t1 y
  subst ht1
  rw [hd] at hK
  generalize S.ev E t1 x = X at *
  generalize S.ev E t1 y = Y at *
  unfold appendK at hk
  split at hk
  rotate_left
  · cases hk
  rename_i id
  split at hk
  rotate_left
  · cases hk
  rename_i T e dp xs hm
  rcases cond_some hk with ⟨hb, hk⟩ | ⟨_, hk⟩
  rotate_left
  · cases hk
  simp only [Bool.and_eq_true, Bool.not_eq_true'] at hb
  obtain ⟨⟨⟨⟨⟨⟨hio, h1⟩, hs1⟩, hz1⟩, hTe⟩, hsl⟩, hna⟩ := hb
  have hio := Nat.le_of_ble_eq_true hio
  have h1 := beq_true h1
  have hTe := beq_true hTe
  have hT2 : P.underlying t1 = some (.slice T) := by
    cases hkd : (E.ty t1).kind <;> rw [hkd] at hsl <;> first | (cases hsl; done) | skip
    have := hT.slice hkd
    have e2 : (E.ty t1).elem = T := hTe
    simp only [TI.elem, hkd] at e2
    rw [this, e2]
  rw [hTe] at hel
  obtain ⟨inf, u, z, hi, _, hz, hsz, hby, hzc, _⟩ := hel.ex
  have hzc := hzc hna
  obtain ⟨_, nx, kx, hgx⟩ := hX
  simp only [Tr.get, Option.some.injEq] at hgx
  have hM := h.mem id
  rw [hm] at hM
  have hM : Own w (okOf w S.m g) (dp + 1) (.sl T e) xs (g id).tr (g id).tr.v := hM
  rw [hgx] at hM
  have hM : Own w (okOf w S.m g) (dp + 1) (.sl T e) xs (.nd (a.eval x) nx kx) (a.eval x) := hM
  have hgb : ∀ k, (a.eval x).ownBlock = some k → k ∈ blks (S.m id) (g id) := fun k hk => by rw [hm]; show k ∈ (g id).tr.blocks; rw [hgx]; exact Tr.own_block hk
  have hca : c.args = #[x, y] := by apply Array.toList_inj.1; rw [hargs]
  have hct : c.argTypes = #[t1, t1] := by apply Array.toList_inj.1; rw [htys]
  have hrun : ∀ v' w', (Builtin.append_ #[t1, t1] o.type #[a.eval x, a.eval y]).run P w = .ok v' w' → (execOp a.eval o).run P w = .ok (.value v') w' := by
    intro v' w' hr
    simp only [execOp, ho, resolve, invoke, builtin, hcal, hca, hct, Sem.run_bind, Sem.run_pure, Result.andThen_ok, List.map_toArray, List.map_cons, List.map_nil, hr]
  have hpos := hel.pos
  have hzs : z.cells.size = 1 := by have := hzc.length; rw [beq_true hz1] at this; simpa using this.symm
  rcases cond_some hk with ⟨hfl, hk⟩ | ⟨hfl, hk⟩
  · -- plain elements
    simp only [Bool.or_eq_true, Bool.not_eq_true'] at hfl
    have hfl : dp = 0 ∨ e.isSl = false := hfl.imp (fun h => beq_true h) (fun h => h)
    split at hk
    rotate_left
    · cases hk
    rename_i ys hys
    rcases cond_some hk with ⟨hf, hk⟩ | ⟨_, hk⟩
    rotate_left
    · cases hk
    injection hk with hk
    subst hk
    obtain ⟨cs, hown, hcs⟩ := Own.flat_inv hM hfl
    obtain ⟨A, cc, hV, hnews⟩ := list_cells h h1 hY hys
    have hfit := Nat.le_of_ble_eq_true hf
    have hmax : xs.length + ys.length ≤ 140737488355328 := by
      have : (xs.length + ys.length) * 1 ≤ (xs.length + ys.length) * (E.ty T).bytes := Nat.mul_le_mul_left _ hpos
      omega
    have fin : ∀ v' w' cs', (Builtin.append_ #[t1, t1] o.type #[a.eval x, a.eval y]).run P w = .ok v' w' → w.grownBy w' (a.eval x).ownBlock → w'.ownsRow 0 T 1 v' (xs ++ ys).length cs' → All2 (fun x c => Rd w (okOf w S.m g) e x [c]) (xs ++ ys) cs' → (v'.ownBlock = (a.eval x).ownBlock ∨ v'.ownBlock = some w.heap.size) → o.wp P a w K Q := by
      intro v' w' cs' hr hgr ho' hc' hat
      unfold Oper.wp
      rw [hrun v' w' hr, Oper.upon_value, hd]
      have hlt : ∀ k, v'.ownBlock = some k → k < w'.heap.size := fun k hk => by
        rcases ho'.2 with ⟨rfl, _⟩ | ⟨b, cap, cur, rfl, _, hh, _⟩
        · cases hk
        · injection hk with hk; subst hk; exact (Array.getElem?_eq_some_iff.1 hh).1
      have hgrow := h.grow (w' := w') id (M := .obj T e dp (xs ++ ys)) (G := ⟨0, .nd v' (xs ++ ys).length fun _ => .lf⟩) hgr.os hgr.tape hgr.output hgr.size (fun k hk hn => hgr.block k hk fun he => hn (hgb k he.symm)) (fun k hk => by
        have hk : k ∈ (Tr.nd v' (xs ++ ys).length fun _ => .lf).blocks := hk
        have hk := Tr.flat_blocks hk
        rcases hat with hat | hat
        · exact .inl (hgb k (by rw [← hat]; exact hk))
        · have h3 := hlt k hk
          rw [hat] at hk; injection hk with hk
          exact .inr ⟨by omega, h3⟩) (fun hx => Own.flat ho' (hc'.mono fun _ _ => Rd.mono hx) hfl)
      refine hK _ _ _ (SR.put (S := ⟨fun i => lift3 (dropF id) (S.t i), upd (fun i => liftM (dropF id) (S.m i)) id (.obj T e dp (xs ++ ys))⟩) hgrow d (.ref id []) v' ⟨⟨T, e, dp, xs ++ ys, by simp [upd]⟩, ?_⟩) ⟨fun _ h => h, fun i hi => ?_⟩
      · rw [GM.put_self]; exact ⟨_, _, rfl⟩
      · have e' : i ≠ id := by omega
        refine ⟨fun _ => GM.put_ne g _ e', ?_⟩
        show KM (S.m i) (upd (fun i => liftM (dropF id) (S.m i)) id _ i)
        simp only [upd, beq_ne e', cond_false]; exact KM.lift ..
    rcases hnews with rfl | ⟨ad, news, rfl, hn1, hn2⟩
    · rw [hV] at fin hrun
      exact fin _ w cs (run_append_zero hT2 hi hown A cc) ⟨rfl, rfl, rfl, Nat.le_refl _, fun _ _ _ => rfl⟩ (by simpa using hown) (by simpa using hcs) (.inl rfl)
    · have hone : ∀ u ∈ news, u.oneCell' = true := by
        intro u hu
        obtain ⟨j, hj⟩ := List.mem_iff_getElem?.1 hu
        obtain ⟨y, _, hr⟩ := hn1.get' j u hj
        exact hr.one u (List.mem_singleton.2 rfl)
      obtain ⟨v', w', h2, h3, h4, _, h5⟩ := run_append_own_at (P := P) w 0 t1 o.type T inf z 1 (E.ty T).bytes hT2 hi hz (hsz.trans (beq_true hs1)) hby hzs Nat.one_pos (a.eval x) xs.length cs hown ad ys.length cc news (by rw [Nat.mul_one, hn1.length]) hn2 hone (by unfold maxLen; omega) hfit (Nat.zero_le _)
      rw [← hV] at h2
      exact fin v' w' (cs ++ news) h2 h4 (by rw [List.length_append]; exact h3) (hcs.append hn1) h5
  · -- slices of the call's own
    split at hk
    rotate_left
    · cases hk
    rename_i r _ _
    split at hk
    rotate_left
    · cases hk
    rename_i T' e' dp' ys hmr
    rcases cond_some hk with ⟨hb, hk⟩ | ⟨_, hk⟩
    rotate_left
    · cases hk
    split at hk
    rotate_left
    · cases hk
    rename_i he
    subst he
    rcases cond_some hk with ⟨hf, hk⟩ | ⟨_, hk⟩
    rotate_left
    · cases hk
    injection hk with hk
    subst hk
    simp only [Bool.and_eq_true, Bool.not_eq_true'] at hb
    obtain ⟨⟨hne, hTT⟩, hdd⟩ := hb
    have hTT := beq_true hTT
    have hdd := beq_true hdd
    subst hTT; subst hdd
    have hne : r ≠ id := fun e => by rw [e, beq_self] at hne; cases hne
    obtain ⟨_, ny, ky, hgy⟩ := hY
    simp only [Tr.get, Option.some.injEq] at hgy
    have hMr := h.mem r
    rw [hmr] at hMr
    have hMr : Own w (okOf w S.m g) (dp' + 1) (.sl T' e') ys (g r).tr (g r).tr.v := hMr
    rw [hgy] at hMr
    have hMr : Own w (okOf w S.m g) (dp' + 1) (.sl T' e') ys (.nd (a.eval y) ny ky) (a.eval y) := hMr
    have hfit := Nat.le_of_ble_eq_true hf
    have hmax : xs.length + ys.length ≤ 140737488355328 := by
      have : (xs.length + ys.length) * 1 ≤ (xs.length + ys.length) * (E.ty T').bytes := Nat.mul_le_mul_left _ hpos
      omega
    have hM0 := hM
    have hMr0 := hMr
    obtain ⟨n1, k1, cs1, ht1, hn1, hrow1, hel1, hs11, hs12⟩ := hM0
    injection ht1 with _ ht1 ht1'
    subst ht1; subst ht1'
    obtain ⟨n2, k2, cs2, ht2, hn2, hrow2, hel2, hs21, hs22⟩ := hMr0
    injection ht2 with _ ht2 ht2'
    subst ht2; subst ht2'
    have hl1 : cs1.length = nx := by have := hrow1.1; omega
    have hl2 : cs2.length = ny := by have := hrow2.1; omega
    have hbx : ∀ k, k ∈ (Tr.nd (a.eval x) nx kx).blocks → k ∈ blks (S.m id) (g id) := fun k hk => by rw [hm]; show k ∈ (g id).tr.blocks; rw [hgx]; exact hk
    have hby' : ∀ k, k ∈ (Tr.nd (a.eval y) ny ky).blocks → k ∈ blks (S.m r) (g r) := fun k hk => by rw [hmr]; show k ∈ (g r).tr.blocks; rw [hgy]; exact hk
    have hxy : ∀ k, k ∈ (Tr.nd (a.eval x) nx kx).blocks → k ∉ (Tr.nd (a.eval y) ny ky).blocks := fun k hk hk' => hne (h.disj r id k (hby' k hk') (hbx k hk))
    generalize hkk : (fun i => if i < nx then kx i else ky (i - nx)) = kk
    have hkk1 : ∀ i, i < nx → kk i = kx i := fun i hi => by subst hkk; simp [hi]
    have hkk2 : ∀ i, kk (nx + i) = ky i := fun i => by subst hkk; show (if nx + i < nx then kx (nx + i) else ky (nx + i - nx)) = ky i; rw [if_neg (by omega), Nat.add_sub_cancel_left]
    have hkb : ∀ i k, i < nx + ny → k ∈ (kk i).blocks → (i < nx ∧ k ∈ (kx i).blocks) ∨ (∃ i', i = nx + i' ∧ i' < ny ∧ k ∈ (ky i').blocks) := fun i k hi hk => by
      by_cases hlt : i < nx
      · rw [hkk1 i hlt] at hk; exact .inl ⟨hlt, hk⟩
      · obtain ⟨i', rfl⟩ : ∃ i', i = nx + i' := ⟨i - nx, by omega⟩
        rw [hkk2] at hk; exact .inr ⟨i', rfl, by omega, hk⟩
    have fin : ∀ v' w', (Builtin.append_ #[t1, t1] o.type #[a.eval x, a.eval y]).run P w = .ok v' w' → w.grownBy w' (a.eval x).ownBlock → w'.ownsRow 0 T' 1 v' (nx + ny) (cs1 ++ cs2) → (v'.ownBlock = (a.eval x).ownBlock ∨ v'.ownBlock = some w.heap.size) → o.wp P a w K Q := by
      intro v' w' hr hgr ho' hat
      unfold Oper.wp
      rw [hrun v' w' hr, Oper.upon_value, hd]
      have hlt : ∀ k, v'.ownBlock = some k → k < w'.heap.size := fun k hk => by
        rcases ho'.2 with ⟨rfl, _⟩ | ⟨b, cap, cur, rfl, _, hh, _⟩
        · cases hk
        · injection hk with hk; subst hk; exact (Array.getElem?_eq_some_iff.1 hh).1
      generalize hm3 : upd (upd (fun i => liftM (drop2F id r) (S.m i)) r .none) id (.obj T' e' dp' (xs ++ ys)) = m3 at *
      have hmid : m3 id = .obj T' e' dp' (xs ++ ys) := by subst hm3; simp [upd]
      have hmrr : m3 r = .none := by subst hm3; simp [upd, beq_ne hne]
      have hmj : ∀ j, j ≠ id → j ≠ r → m3 j = liftM (drop2F id r) (S.m j) := fun j e1 e2 => by subst hm3; simp [upd, beq_ne e1, beq_ne e2]
      generalize hG : (⟨0, .nd v' (nx + ny) kk⟩ : GE) = G
      have hGt : G.tr = .nd v' (nx + ny) kk := by subst hG; rfl
      have hold : ∀ i k, i < nx + ny → k ∈ (kk i).blocks → k < w.heap.size ∧ (a.eval x).ownBlock ≠ some k := fun i k hi hk => by
        rcases hkb i k hi hk with ⟨h3, h4⟩ | ⟨i', _, h3, h4⟩
        · exact ⟨(h.own id k (hbx k (Tr.mem_nd.2 (.inr ⟨i, h3, h4⟩)))).1, hs11 i h3 k h4⟩
        · have h5 : k ∈ (Tr.nd (a.eval y) ny ky).blocks := Tr.mem_nd.2 (.inr ⟨i', h3, h4⟩)
          exact ⟨(h.own r k (hby' k h5)).1, fun he => hxy k (Tr.own_block he) h5⟩
      have hbG : ∀ k, k ∈ G.tr.blocks → (k ∈ blks (S.m id) (g id) ∨ k ∈ blks (S.m r) (g r)) ∨ (w.heap.size ≤ k ∧ k < w'.heap.size) := fun k hk => by
        rw [hGt] at hk
        rcases Tr.mem_nd.1 hk with hk | ⟨i, hi, hk⟩
        · rcases hat with hat | hat
          · exact .inl (.inl (hgb k (by rw [← hat]; exact hk)))
          · have h3 := hlt k hk
            rw [hat] at hk; injection hk with hk
            exact .inr ⟨by omega, h3⟩
        · rcases hkb i k hi hk with ⟨h3, h4⟩ | ⟨i', _, h3, h4⟩
          · exact .inl (.inl (hbx k (Tr.mem_nd.2 (.inr ⟨i, h3, h4⟩))))
          · exact .inl (.inr (hby' k (Tr.mem_nd.2 (.inr ⟨i', h3, h4⟩))))
      have hb3 : ∀ j k, k ∈ blks (m3 j) ((g.put id G) j) → (j = id ∧ ((k ∈ blks (S.m id) (g id) ∨ k ∈ blks (S.m r) (g r)) ∨ (w.heap.size ≤ k ∧ k < w'.heap.size))) ∨ (j ≠ id ∧ j ≠ r ∧ k ∈ blks (S.m j) (g j)) := fun j k hkb' => by
        by_cases e1 : j = id
        · subst e1
          rw [hmid, GM.put_self] at hkb'
          exact .inl ⟨rfl, hbG k hkb'⟩
        · by_cases e2 : j = r
          · subst e2; rw [hmrr] at hkb'; cases hkb'
          · rw [hmj j e1 e2, GM.put_ne g _ e1, blks_lift] at hkb'; exact .inr ⟨e1, e2, hkb'⟩
      have hstep := h.step (m' := m3) (g' := g.put id G) (w' := w') (· = id) (f := drop2F id r) hgr.os hgr.tape hgr.output hgr.size (fun k hk hn => hgr.block k hk fun he => hn id rfl (hgb k he.symm)) (fun j k hk => by
          rcases hb3 j k hk with ⟨_, (h3 | h3) | h3⟩ | ⟨_, _, h3⟩
          · exact .inl ⟨_, h3⟩
          · exact .inl ⟨_, h3⟩
          · exact .inr h3
          · exact .inl ⟨_, h3⟩) (fun j j' k hk hk' => by
          rcases hb3 j k hk with ⟨e1, h3⟩ | ⟨e1, e2, h3⟩ <;> rcases hb3 j' k hk' with ⟨e3, h4⟩ | ⟨e3, e4, h4⟩
          · rw [e1, e3]
          · rcases h3 with (h3 | h3) | h3
            · exact absurd (h.disj _ _ k h4 h3) e3
            · exact absurd (h.disj _ _ k h4 h3) e4
            · have := (h.own _ k h4).1; omega
          · rcases h4 with (h4 | h4) | h4
            · exact absurd (h.disj _ _ k h3 h4) e1
            · exact absurd (h.disj _ _ k h3 h4) e2
            · have := (h.own _ k h3).1; omega
          · exact h.disj _ _ k h3 h4) rfl fun hx => ⟨fun x' v0 hr0 => ?_, fun hf j => ?_⟩
      · refine hK _ _ _ (SR.put (S := ⟨fun i => lift3 (drop2F id r) (S.t i), m3⟩) hstep.1 d (.ref id []) v' ⟨⟨T', e', dp', xs ++ ys, hmid⟩, ?_⟩) ⟨fun _ h => h, fun i hi => ?_⟩
        · rw [GM.put_self]; simp only [Tr.get]; rw [hGt]; exact ⟨_, _, rfl⟩
        · have e' : i ≠ id := by omega
          refine ⟨fun _ => GM.put_ne g _ e', ?_⟩
          show KM (S.m i) (m3 i)
          by_cases e2 : i = r
          · rw [e2, hmrr]; exact .inl rfl
          · rw [hmj i e' e2]; exact KM.lift ..
      · unfold drop2F
        cases hh : (x'.has id || x'.has r) with
        | true => exact trivial
        | false =>
          simp only [Bool.or_eq_false_iff] at hh
          have hne1 : ∀ j, x'.id? = some j → j ≠ id := fun j hj e => by rw [e] at hj; rw [has_iff.2 hj] at hh; cases hh.1
          have hne2 : ∀ j, x'.id? = some j → j ≠ r := fun j hj e => by rw [e] at hj; rw [has_iff.2 hj] at hh; cases hh.2
          exact R0.sim hx (fun j hj => Sim.lift (f := drop2F id r) (hmj j (hne1 j hj) (hne2 j hj)) (GM.put_ne g _ (hne1 j hj))) hr0
      · by_cases e1 : j = id
        · subst e1
          rw [hmid, GM.put_self]
          show Own w' _ (dp' + 1) (.sl T' e') (xs ++ ys) G.tr G.tr.v
          rw [hGt]
          have hkeep : ∀ i k, i < nx + ny → k ∈ (kk i).blocks → w'.heap[k]? = w.heap[k]? := fun i k hi hk => by
            obtain ⟨h3, h4⟩ := hold i k hi hk
            exact hgr.block k h3 fun he => h4 he.symm
          refine ⟨nx + ny, kk, cs1 ++ cs2, rfl, by rw [List.length_append, hn1, hn2], ho', fun i y0 c0 hi hc => ?_, fun i hi k hk => ?_, fun i i' k hi hi' hk hk' => ?_⟩
          · by_cases hlt' : i < nx
            · rw [List.getElem?_append_left (by omega)] at hi hc
              rw [hkk1 i hlt']
              exact Own.mono hx (fun k hk => hkeep i k (by omega) (by rw [hkk1 i hlt']; exact hk)) (hel1 i y0 c0 hi hc)
            · obtain ⟨i', rfl⟩ : ∃ i', i = nx + i' := ⟨i - nx, by omega⟩
              rw [List.getElem?_append_right (by omega)] at hi hc
              rw [hn1] at hi; rw [hl1] at hc
              simp only [Nat.add_sub_cancel_left] at hi hc
              have hi' : i' < ny := hn2 ▸ (List.getElem?_eq_some_iff.1 hi).1
              rw [hkk2]
              exact Own.mono hx (fun k hk => hkeep (nx + i') k (by omega) (by rw [hkk2]; exact hk)) (hel2 i' y0 c0 hi hc)
          · obtain ⟨h3, h4⟩ := hold i k hi hk
            rcases hat with hat | hat
            · show v'.ownBlock ≠ some k; rw [hat]; exact h4
            · show v'.ownBlock ≠ some k; rw [hat]; intro he; injection he with he; omega
          · rcases hkb i k hi hk with ⟨h3, h4⟩ | ⟨i1, e1, h3, h4⟩ <;> rcases hkb i' k hi' hk' with ⟨h5, h6⟩ | ⟨i2, e2, h5, h6⟩
            · exact hs12 i i' k h3 h5 h4 h6
            · exact absurd (Tr.mem_nd.2 (.inr ⟨i2, h5, h6⟩)) (hxy k (Tr.mem_nd.2 (.inr ⟨i, h3, h4⟩)))
            · exact absurd (Tr.mem_nd.2 (.inr ⟨i1, h3, h4⟩)) (hxy k (Tr.mem_nd.2 (.inr ⟨i', h5, h6⟩)))
            · rw [e1, e2, hs22 i1 i2 k h3 h5 h4 h6]
        · by_cases e2 : j = r
          · subst e2; rw [hmrr]; trivial
          · rw [hmj j e1 e2, GM.put_ne g _ e1]
            exact MR.lift hx hf (fun k hk => hgr.block k (h.own j k hk).1 fun he => e1 (h.disj j id k hk (hgb k he.symm))) (h.mem j)
    have hone : ∀ u ∈ cs2, u.oneCell' = true := by
      intro u hu
      obtain ⟨j, hj⟩ := List.mem_iff_getElem?.1 hu
      have hjn : j < ny := hl2 ▸ (List.getElem?_eq_some_iff.1 hj).1
      exact (hel2 j ys[j] u (List.getElem?_eq_getElem (by omega)) hj).one
    rcases hrow2.2 with ⟨hv2, h0⟩ | ⟨b2, cap2, cur2, hv2, _, hh2, _⟩
    · rw [hv2] at fin
      have hc2 : cs2 = [] := List.eq_nil_of_length_eq_zero (by omega)
      have hy2 : ny = 0 := h0
      have hr0 := run_append_zero (ty := o.type) hT2 hi hrow1 none 0
      exact fin _ w hr0 ⟨rfl, rfl, rfl, Nat.le_refl _, fun _ _ _ => rfl⟩ (by rw [hc2, hy2, List.append_nil, Nat.add_zero]; exact hrow1) (.inl rfl)
    · have hnews : ∀ j u, cs2[j]? = some u → w.cell? ((⟨b2, 0, none⟩ : Addr).add j) = some u := fun j u hj => hrow2.cells (g := b2) (by rw [hv2]; rfl) j u hj
      obtain ⟨v', w', h2, h3, h4, _, h5⟩ := run_append_own_at (P := P) w 0 t1 o.type T' inf z 1 (E.ty T').bytes hT2 hi hz (hsz.trans (beq_true hs1)) hby hzs Nat.one_pos (a.eval x) nx cs1 hrow1 ⟨b2, 0, none⟩ ny cap2 cs2 (by omega) hnews hone (by unfold maxLen; omega) (by rw [← hn1, ← hn2]; exact hfit) (Nat.zero_le _)
      rw [← hv2] at h2
      exact fin v' w' h2 h4 h3 h5
end
end Go.Proofs.Ytckieogkaodkdaa.V
