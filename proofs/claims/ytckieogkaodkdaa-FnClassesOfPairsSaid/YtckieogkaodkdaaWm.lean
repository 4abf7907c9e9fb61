/- What operations look at, and what they leave alone. -/
import Derived.Test.YtckieogkaodkdaaWl
set_option linter.unusedVariables false
set_option linter.unusedSimpArgs false
namespace Go.Proofs.Ytckieogkaodkdaa.V
open Go Go.RowKit

/-! ### what an operation comes to depends on its operands alone -/
theorem toFreeze_congr (E : Env) {ev ev' : Nat → Operand → AV} (op : Op) (h : ∀ T x, x ∈ op.operands.toList → ev T x = ev' T x) : toFreeze E ev op = toFreeze E ev' op := by
  cases op <;> simp only [toFreeze]
  case buildSlice T n ps =>
    simp only [List.flatMap]
    congr 1
    exact List.map_congr_left fun p hp => by rw [h _ p.2 (by simp only [Op.operands, List.toList_toArray, List.mem_map]; exact ⟨p, hp, rfl⟩)]
  case slice T x lo hi mx => rw [h _ x (by simp [Op.operands])]
theorem newK_congr {ρ : Type} {κ : Eff → Option ρ} (E : Env) {ev ev' : Nat → Operand → AV} (m : Nat → ME) (ty : Nat) (op : Op) (d dp : Nat) (h : ∀ T x, x ∈ op.operands.toList → ev T x = ev' T x) : newK E ev m ty op d dp κ = newK E ev' m ty op d dp κ := by
  unfold newK
  split
  · rw [valK_congr E m ty _ h]
  · rename_i T n parts
    simp only
    rw [toFreeze_congr E _ h]
    generalize freezeInM (toFreeze E ev' (.buildSlice T n parts)) m = F
    rw [valK_congr (ev := fun t x => F.f (ev t x)) (ev' := fun t x => F.f (ev' t x)) E F.m ty _ fun t x hx => by simp only [h t x hx]]
    congr 1
    split
    · rename_i i x hps
      rw [h _ x (by simp only [Op.operands, List.toList_toArray, List.mem_map]; exact ⟨(i, x), by rw [hps]; exact List.mem_singleton.2 rfl, rfl⟩)]
    · rfl
  · rw [valK_congr E m ty _ h]
theorem effK_congr {ρ : Type} {κ : Eff → Option ρ} (E : Env) {ev ev' : Nat → Operand → AV} (m : Nat → ME) (o : Oper) (h : ∀ T x, x ∈ o.op.operands.toList → ev T x = ev' T x) : effK E ev m o κ = effK E ev' m o κ := by
  unfold effK
  split
  · rfl
  · rename_i T x hop
    rw [hop] at h
    rw [h T x (by simp [Op.operands])]
  · rename_i T x y hop
    rw [hop] at h
    rw [h 0 x (by simp [Op.operands]), h T y (by simp [Op.operands])]
  · rename_i c hop
    have h0 := h
    rw [hop] at h
    have ha : ∀ T x, x ∈ c.args.toList → ev T x = ev' T x := fun T x hx => h T x (by simp only [Op.operands, Call.operands, Array.toList_append, List.mem_append]; exact .inr hx)
    split
    · rename_i f hf
      rw [h 0 f (by simp [Op.operands, Call.operands, hf])]
      have e : (c.args.toList.zip c.argTypes.toList).map (fun p => ev p.2 p.1) = (c.args.toList.zip c.argTypes.toList).map fun p => ev' p.2 p.1 := List.map_congr_left fun p hp => ha _ _ (List.of_mem_zip hp).1
      rw [e]
    · split
      · rename_i x y _ _ _ hx _ _; rw [ha _ x (by rw [hx]; simp), ha _ y (by rw [hx]; simp)]
      · rfl
    · rw [valK_congr E m _ _ h0]
  · split
    · split
      · rw [newK_congr E m _ _ _ _ h]
      · simp only
        rw [toFreeze_congr E _ h]
        rw [valK_congr (ev' := fun T x => (freezeInM (toFreeze E ev' o.op) m).f (ev' T x)) E _ _ _ fun T x hx => by rw [h T x hx]]
    · rw [valK_congr E m _ _ h]

/-! ### what a value speaks of is all that it looks at in memory -/
theorem ids_nrm (x : AV) : idsOf3 (nrm x) = idsOf3 x := by cases x <;> rfl
section
variable {m m' : Nat → ME}
theorem lend0_local {x : AV} (h : ∀ id ∈ idsOf0 x, m' id = m id) : lend0 m' x = lend0 m x := by
  cases x <;> simp only [lend0]
  rename_i id q
  rw [h id (by simp [idsOf0, AV.id?])]
theorem lend1_local {x : AV} (h : ∀ id ∈ idsOf1 x, m' id = m id) : lend1 m' x = lend1 m x := by
  cases x <;> simp only [lend1] <;> try exact lend0_local h
  rename_i F l
  have e : l.map (lendC m') = l.map (lendC m) := List.map_congr_left fun y hy => by
    have h : ∀ id ∈ idsOf0 y, m' id = m id := fun id hi => h id (List.mem_flatMap.2 ⟨y, hy, hi⟩)
    cases y <;> simp only [lendC] <;> try exact lend0_local h
    rename_i id off
    rw [h id (by simp [idsOf0, AV.id?])]
  rw [e]
theorem lend2_local {x : AV} (h : ∀ id ∈ idsOf3 x, m' id = m id) : lend2 m' x = lend2 m x := by
  cases x <;> simp only [lend2] <;> try exact lend1_local h
  · rename_i l
    congr 1
    exact List.map_congr_left fun y hy => lend1_local fun id hi => h id (List.mem_flatMap.2 ⟨y, hy, hi⟩)
  · rfl
theorem lendAs_local (mu : List Nat) : ∀ (l : List AV) (i : Nat), (∀ x ∈ l, (∀ id ∈ idsOf3 x, m' id = m id) ∨ x.isCap = true) → lendAs m' mu i l = lendAs m mu i l
  | [], _, _ => rfl
  | x :: l, i, h => by
    simp only [lendAs]
    rw [lendAs_local mu l (i + 1) fun y hy => h y (List.mem_cons_of_mem _ hy)]
    congr 1
    unfold lendA
    split
    · rfl
    · rcases h x (List.mem_cons_self ..) with h | h
      · exact lend2_local h
      · cases x <;> first | rfl | cases h
theorem callV_local {ρ : Type} {κ : AV → Option ρ} (E : Env) (f : Nat) {args : List AV} (h : ∀ x ∈ args, (∀ id ∈ idsOf3 x, m' id = m id) ∨ x.isCap = true) : callV E m' f args κ = callV E m f args κ := by
  unfold callV
  simp only
  rw [lendAs_local _ _ _ h]
theorem loadK_local {ρ : Type} {κ : AV → Option ρ} (E : Env) (T : Nat) {x : AV} (h : ∀ id ∈ idsOf3 x, m' id = m id) : loadK E m' T x κ = loadK E m T x κ := by
  cases x <;> simp only [loadK]
  · rename_i id off
    rw [h id (by simp [idsOf3, idsOf2, idsOf1, idsOf0, AV.id?])]
  · rename_i id q i
    rw [h id (by simp [idsOf3, idsOf2, idsOf1, idsOf0, AV.id?])]
theorem indexAddrK_local {ρ : Type} {κ : AV → Option ρ} (E : Env) (T : Nat) {x i : AV} (h : ∀ id ∈ idsOf3 x, m' id = m id) : indexAddrK E m' T x i κ = indexAddrK E m T x i κ := by
  unfold indexAddrK
  split
  · cases x <;> first | rfl | (rename_i e l; cases e <;> rfl) | skip
    · rename_i id off
      dsimp only
      rw [h id (by simp [idsOf3, idsOf2, idsOf1, idsOf0, AV.id?])]
    · rename_i id q
      dsimp only
      rw [h id (by simp [idsOf3, idsOf2, idsOf1, idsOf0, AV.id?])]
  · rfl
theorem lenK_local {ρ : Type} {κ : AV → Option ρ} {x : AV} (h : ∀ id ∈ idsOf3 x, m' id = m id) : lenK m' x κ = lenK m x κ := by
  cases x <;> first | rfl | (rename_i e l; cases e <;> rfl) | skip
  rename_i id q
  simp only [lenK]
  rw [h id (by simp [idsOf3, idsOf2, idsOf1, idsOf0, AV.id?])]
theorem valK_local {ρ : Type} {κ : AV → Option ρ} (E : Env) {ev : Nat → Operand → AV} (ty : Nat) (op : Op) (hl : looks op = true → ∀ T x, x ∈ op.operands.toList → ∀ id ∈ idsOf3 (ev T x), m' id = m id) (hcap : ∀ f g caps, ev 0 f = .fn g caps → caps.all AV.isCap = true) :
    valK E ev m' ty op κ = valK E ev m ty op κ := by
  unfold valK
  congr 1
  cases op <;> simp only [valK0]
  case makeFunc fn first caps => cases fn <;> rfl
  case slice T x lo hi mx => cases mx <;> rfl
  case load T x => rw [loadK_local E T (hl rfl 0 x (by simp [Op.operands]))]
  case indexAddr T x i => rw [indexAddrK_local E T (by rw [ids_nrm]; exact hl rfl T x (by simp [Op.operands]))]
  case call c =>
    have h := hl rfl
    have ha : ∀ T x, x ∈ c.args.toList → ∀ id ∈ idsOf3 (ev T x), m' id = m id := fun T x hx => h T x (by simp only [Op.operands, Call.operands, Array.toList_append, List.mem_append]; exact .inr hx)
    split
    · rename_i f hf
      split
      · rename_i g caps he
        refine callV_local E g fun x hx => ?_
        rcases List.mem_append.1 hx with hx | hx
        · obtain ⟨p, hp, rfl⟩ := List.mem_map.1 hx
          exact .inl (ha _ _ (List.of_mem_zip hp).1)
        · exact .inr (List.all_eq_true.1 (hcap f g caps he) x hx)
      · rfl
    · split
      · rename_i x hx; rw [lenK_local (by rw [ids_nrm]; exact ha _ x (by rw [hx]; simp))]
      · rfl
    · rfl
    · rfl
    · rfl
end

/-! ### what a doing leaves alone -/
def Good (m : Nat → ME) (M : Mo) : Prop := (∀ x, clear3 M.ids x = true → M.f x = x) ∧ ∀ j, j ∉ M.ids → clearM M.ids (m j) = true → M.m j = m j
theorem clear0_iff {ids : List Nat} {x : AV} : clear0 ids x = true ↔ ∀ i, x.id? = some i → i ∉ ids := by
  unfold clear0
  cases hx : x.id? with
  | none => simp
  | some i =>
    simp only [Bool.not_eq_true', Option.some.injEq]
    constructor
    · intro h j hj hm
      subst hj
      rw [List.any_eq_true.2 ⟨i, hm, beq_self i⟩] at h; cases h
    · intro h
      rw [Bool.eq_false_iff]
      intro ha
      obtain ⟨j, hj, e⟩ := List.any_eq_true.1 ha
      exact h i rfl (beq_true e ▸ hj)
section
variable {ids ids' : List Nat} {f : AV → AV} {m m' : Nat → ME}
theorem clear0_mono (h : ∀ i ∈ ids, i ∈ ids') {x : AV} (hx : clear0 ids' x = true) : clear0 ids x = true := clear0_iff.2 fun i hi hm => clear0_iff.1 hx i hi (h i hm)
theorem clear1_mono (h : ∀ i ∈ ids, i ∈ ids') {x : AV} (hx : clear1 ids' x = true) : clear1 ids x = true := by
  cases x <;> simp only [clear1] at hx ⊢ <;> try exact clear0_mono h hx
  simp only [Bool.and_eq_true, List.all_eq_true] at hx ⊢
  exact ⟨hx.1, fun y hy => clear0_mono h (hx.2 y hy)⟩
theorem clear2_mono (h : ∀ i ∈ ids, i ∈ ids') {x : AV} (hx : clear2 ids' x = true) : clear2 ids x = true := by
  cases x <;> simp only [clear2] at hx ⊢ <;> try exact clear1_mono h hx
  simp only [List.all_eq_true] at hx ⊢
  exact fun y hy => clear1_mono h (hx y hy)
theorem clear3_mono (h : ∀ i ∈ ids, i ∈ ids') {x : AV} (hx : clear3 ids' x = true) : clear3 ids x = true := by
  cases x <;> simp only [clear3] at hx ⊢ <;> try exact clear2_mono h hx
  simp only [List.all_eq_true] at hx ⊢
  exact fun y hy => clear2_mono h (hx y hy)
theorem clearM_mono (h : ∀ i ∈ ids, i ∈ ids') {x : ME} (hx : clearM ids' x = true) : clearM ids x = true := by
  cases x <;> simp only [clearM] at hx ⊢
  simp only [List.all_eq_true] at hx ⊢
  exact fun y hy => clear1_mono h (hx y hy)
theorem map_self {α : Type} {f : α → α} : ∀ {l : List α}, (∀ x ∈ l, f x = x) → l.map f = l
  | [], _ => rfl
  | x :: l, h => by rw [List.map_cons, h x (List.mem_cons_self ..), map_self fun y hy => h y (List.mem_cons_of_mem _ hy)]
theorem lift1_clear (hf : ∀ y, clear0 ids y = true → f y = y) {x : AV} (hx : clear1 ids x = true) : lift1 f x = x := by
  cases x <;> simp only [clear1] at hx <;> simp only [lift1] <;> try exact hf _ hx
  simp only [Bool.and_eq_true, List.all_eq_true] at hx
  rw [map_self fun y hy => hf y (hx.2 y hy), List.all_eq_true.2 hx.1]; rfl
theorem lift2_clear (hf : ∀ y, clear0 ids y = true → f y = y) {x : AV} (hx : clear2 ids x = true) : lift2 f x = x := by
  cases x <;> simp only [clear2] at hx <;> simp only [lift2] <;> try exact lift1_clear hf hx
  simp only [List.all_eq_true] at hx
  rw [map_self fun y hy => lift1_clear hf (hx y hy)]
theorem lift3_clear (hf : ∀ y, clear0 ids y = true → f y = y) {x : AV} (hx : clear3 ids x = true) : lift3 f x = x := by
  cases x <;> simp only [clear3] at hx <;> simp only [lift3] <;> try exact lift2_clear hf hx
  simp only [List.all_eq_true] at hx
  rw [map_self fun y hy => lift2_clear hf (hx y hy)]
theorem liftM_clear (hf : ∀ y, clear0 ids y = true → f y = y) {x : ME} (hx : clearM ids x = true) : liftM f x = x := by
  cases x <;> simp only [clearM] at hx <;> simp only [liftM]
  simp only [List.all_eq_true] at hx
  rw [map_self fun y hy => lift1_clear hf (hx y hy)]
theorem good_lift (hf : ∀ y, clear0 ids y = true → f y = y) (hm : ∀ j, j ∉ ids → m' j = liftM f (m j)) : Good m ⟨lift3 f, m', ids⟩ :=
  ⟨fun x hx => lift3_clear hf hx, fun j hj hc => by show m' j = m j; rw [hm j hj]; exact liftM_clear hf hc⟩
theorem good_id (hm : ∀ j, j ∉ ids → m' j = m j) : Good m ⟨fun x => x, m', ids⟩ := ⟨fun _ _ => rfl, fun j hj _ => hm j hj⟩
theorem good_nil (m : Nat → ME) : Good m (.nil m) := good_id fun _ _ => rfl
/-- One behind the other. -/
theorem good_comp {A B : Mo} (hA : Good m A) (hB : Good A.m B) : Good m ⟨fun x => B.f (A.f x), B.m, A.ids ++ B.ids⟩ := by
  refine ⟨fun x hx => ?_, fun j hj hc => ?_⟩
  · show B.f (A.f x) = x
    rw [hA.1 x (clear3_mono (fun i hi => List.mem_append_left _ hi) hx)]
    exact hB.1 x (clear3_mono (fun i hi => List.mem_append_right _ hi) hx)
  · show B.m j = m j
    have e := hA.2 j (fun h => hj (List.mem_append_left _ h)) (clearM_mono (fun i hi => List.mem_append_left _ hi) hc)
    rw [hB.2 j (fun h => hj (List.mem_append_right _ h)) (by rw [e]; exact clearM_mono (fun i hi => List.mem_append_right _ hi) hc), e]
theorem good_next {A : Mo} {B : (Nat → ME) → Mo} (hA : Good m A) (hB : Good A.m (B A.m)) : Good m (A.next B) := good_comp hA hB
/-- Other memory behind it. -/
theorem good_mem {A : Mo} {l : List Nat} (hA : Good m A) (hm : ∀ j, j ∉ l → m' j = A.m j) : Good m ⟨A.f, m', A.ids ++ l⟩ := good_comp hA (good_id (m := A.m) hm)
theorem good_ids {A : Mo} (hA : Good m A) {l : List Nat} (h : ∀ i ∈ A.ids, i ∈ l) : Good m ⟨A.f, A.m, l⟩ :=
  ⟨fun x hx => hA.1 x (clear3_mono h hx), fun j hj hc => hA.2 j (fun hm => hj (h j hm)) (clearM_mono h hc)⟩
theorem ne_of {x : AV} {id i : Nat} (h : clear0 ids x = true) (hx : x.id? = some i) (hm : id ∈ ids) : i ≠ id := fun e => clear0_iff.1 h i hx (e ▸ hm)
theorem drop_clear {id : Nat} (hid : id ∈ ids) {y : AV} (h : clear0 ids y = true) : dropF id y = y := by
  unfold dropF
  cases hh : y.has id with
  | false => rfl
  | true => exact absurd rfl (ne_of h (has_iff.1 hh) hid)
theorem drop2_clear {id r : Nat} (hid : id ∈ ids) (hr : r ∈ ids) {y : AV} (h : clear0 ids y = true) : drop2F id r y = y := by
  unfold drop2F
  cases hh : (y.has id || y.has r) with
  | false => rfl
  | true =>
    rcases Bool.or_eq_true _ _ ▸ hh with hh | hh
    · exact absurd rfl (ne_of h (has_iff.1 hh) hid)
    · exact absurd rfl (ne_of h (has_iff.1 hh) hr)
theorem freeze_clear {id T : Nat} {e : ET} {xs : List e.ty} (hid : id ∈ ids) {y : AV} (h : clear0 ids y = true) : freezeF id T e xs y = y := by
  cases y <;> simp only [freezeF]
  · rw [beq_ne (ne_of h rfl hid)]; rfl
  · rw [beq_ne (ne_of h rfl hid)]; rfl
theorem still_clear {id : Nat} {l : List AV} (hid : id ∈ ids) {y : AV} (h : clear0 ids y = true) : stillF id l y = y := by
  cases y <;> simp only [stillF]
  rw [beq_ne (ne_of h rfl hid)]; rfl
theorem ren_clear {id k : Nat} (hid : id ∈ ids) {y : AV} (h : clear0 ids y = true) : renF id k y = y := by
  cases y <;> simp only [renF]
  · rw [beq_ne (ne_of h rfl hid)]; rfl
  · rw [beq_ne (ne_of h rfl hid)]; rfl
theorem take_clear {id r : Nat} {p : List Nat} (hid : id ∈ ids) (hr : r ∈ ids) {y : AV} (h : clear0 ids y = true) : takeF id r p y = y := by
  cases y <;> simp only [takeF]
  · rw [beq_ne (ne_of h rfl hid), beq_ne (ne_of h rfl hr)]; rfl
  · rw [beq_ne (ne_of h rfl hid), beq_ne (ne_of h rfl hr)]; rfl
theorem wrap_clear {d r : Nat} (hd : d ∈ ids) (hr : r ∈ ids) {y : AV} (h : clear0 ids y = true) : wrapF d r y = y := by
  cases y <;> simp only [wrapF]
  · rw [beq_ne (ne_of h rfl hd)]; rfl
  · rw [beq_ne (ne_of h rfl hd), beq_ne (ne_of h rfl hr)]; rfl
  · rw [beq_ne (ne_of h rfl hd), beq_ne (ne_of h rfl hr)]; rfl
theorem mem1 {i : Nat} : i ∈ [i] := List.mem_singleton.2 rfl
theorem ne1 {j i : Nat} (h : j ∉ [i]) : j ≠ i := fun e => h (List.mem_singleton.2 e)
theorem good_drop (d : Nat) (m : Nat → ME) : Good m (dropM d m) := good_lift (fun y hy => drop_clear mem1 hy) fun j hj => drop_other m (ne1 hj)
theorem good_freeze (d : Nat) (m : Nat → ME) : Good m (freezeM d m) := by
  unfold freezeM
  split
  · exact good_lift (fun y hy => freeze_clear mem1 hy) fun j hj => by simp only [upd, beq_ne (ne1 hj), cond_false]
  · exact good_nil m
theorem good_still (d : Nat) (m : Nat → ME) : Good m (stillM d m) := by
  unfold stillM
  split
  · rename_i l _
    cases l.all AV.isD
    · exact good_nil m
    · exact good_lift (fun y hy => still_clear mem1 hy) fun j hj => by simp only [upd, beq_ne (ne1 hj), cond_false]
  · exact good_nil m
theorem good_ren0 (d k : Nat) (m : Nat → ME) : Good m (renM0 d k m) := by
  unfold renM0
  split
  · exact good_lift (fun y hy => ren_clear (List.mem_cons_self ..) hy) fun j hj => by
      have e1 : j ≠ d := fun e => hj (by simp [e])
      have e2 : j ≠ k := fun e => hj (by simp [e])
      simp only [upd, beq_ne e1, beq_ne e2, cond_false]
  · exact good_nil m
theorem good_ren (d k : Nat) (m : Nat → ME) : Good m (renM d k m) := by
  unfold renM
  cases Nat.beq d k
  · exact good_next (good_drop k m) (good_ren0 d k _)
  · exact good_nil m
theorem good_dropIn : ∀ (l : List Nat) (m : Nat → ME), Good m (dropInM l m)
  | [], m => good_nil m
  | d :: l, m => good_next (good_drop d m) (good_dropIn l _)
theorem good_freezeIn : ∀ (l : List Nat) (m : Nat → ME), Good m (freezeInM l m)
  | [], m => good_nil m
  | d :: l, m => good_next (good_freeze d m) (good_freezeIn l _)
theorem good_stillIn : ∀ (l : List Nat) (m : Nat → ME), Good m (stillInM l m)
  | [], m => good_nil m
  | d :: l, m => good_next (good_still d m) (good_stillIn l _)
theorem good_newObj (d T : Nat) (e : ET) (dp : Nat) (xs : List e.ty) (m : Nat → ME) : Good m (newObjM d T e dp xs m) :=
  good_lift (fun y hy => drop_clear mem1 hy) fun j hj => by
    show upd (dropM d m).m d _ j = _
    simp only [upd, beq_ne (ne1 hj), cond_false]; exact drop_other m (ne1 hj)
theorem dropIn_ids : ∀ (l : List Nat) (m : Nat → ME), (dropInM l m).ids = l
  | [], _ => rfl
  | d :: l, m => by show [d] ++ (dropInM l _).ids = _; rw [dropIn_ids]; rfl

theorem valK_good {κ : AV → Option Eff} {E : Env} {ev : Nat → Operand → AV} {m0 : Nat → ME} {ty : Nat} {op : Op} {F : Eff} (h : valK E ev m0 ty op κ = some F) (hg : ∀ v, κ v = some F → Good m F.M) : Good m F.M := by
  obtain ⟨x, _, hx⟩ := valK_some h
  exact hg x hx
theorem storeK_good {E : Env} {T : Nat} {x v : AV} {F : Eff} (h : storeK E m T x v some = some F) : Good m F.M := by
  have one : ∀ (id : Nat) (X : ME), Good m ⟨fun x => x, upd m id X, [id]⟩ := fun id X => good_id fun j hj => by simp only [upd, beq_ne (ne1 hj), cond_false]
  have done : ∀ {id : Nat} {X : ME}, some (⟨none, ⟨fun x => x, upd m id X, [id]⟩⟩ : Eff) = some F → Good m F.M := fun h => by injection h with h; subst h; exact one _ _
  unfold storeK at h
  split at h
  · split at h
    · rcases cond_some h with ⟨_, h⟩ | ⟨_, h⟩
      · exact done h
      · cases h
    · split at h
      · rcases cond_some h with ⟨_, h⟩ | ⟨_, h⟩
        · split at h
          · exact done h
          · cases h
        · cases h
      · cases h
    · cases h
  · rcases cond_some h with ⟨_, h⟩ | ⟨_, h⟩
    rotate_left
    · cases h
    split at h
    rotate_left
    · cases h
    split at h
    · split at h
      · split at h
        · exact done h
        · cases h
      · cases h
    · split at h
      rotate_left
      · cases h
      rcases cond_some h with ⟨_, h⟩ | ⟨_, h⟩
      · split at h
        rotate_left
        · cases h
        split at h
        rotate_left
        · cases h
        rcases cond_some h with ⟨_, h⟩ | ⟨_, h⟩
        rotate_left
        · cases h
        split at h
        rotate_left
        · cases h
        split at h
        rotate_left
        · cases h
        injection h with h
        subst h
        refine good_lift (fun y hy => take_clear (List.mem_cons_self ..) (by simp) hy) fun j hj => ?_
        simp only [List.mem_cons, List.not_mem_nil, or_false, not_or] at hj
        simp only [upd, beq_ne hj.1, beq_ne hj.2, cond_false]
      · split at h
        rotate_left
        · cases h
        split at h
        · exact done h
        · cases h
    · cases h
  · cases h
theorem appendK_good {E : Env} {t0 : Nat} {x y : AV} {F : Eff} (h : appendK E m t0 x y some = some F) : Good m F.M := by
  unfold appendK at h
  split at h
  rotate_left
  · cases h
  split at h
  rotate_left
  · cases h
  rcases cond_some h with ⟨_, h⟩ | ⟨_, h⟩
  rotate_left
  · cases h
  rcases cond_some h with ⟨_, h⟩ | ⟨_, h⟩
  · split at h
    · rcases cond_some h with ⟨_, h⟩ | ⟨_, h⟩
      · injection h with h; subst h; exact good_lift (fun z hz => drop_clear mem1 hz) fun j hj => by simp only [upd, beq_ne (ne1 hj), cond_false]
      · cases h
    · cases h
  · split at h
    rotate_left
    · cases h
    split at h
    rotate_left
    · cases h
    rcases cond_some h with ⟨_, h⟩ | ⟨_, h⟩
    rotate_left
    · cases h
    split at h
    rotate_left
    · cases h
    rcases cond_some h with ⟨_, h⟩ | ⟨_, h⟩
    rotate_left
    · cases h
    injection h with h
    subst h
    refine good_lift (fun z hz => drop2_clear (by simp) (by simp) hz) fun j hj => ?_
    simp only [List.mem_cons, List.not_mem_nil, or_false, not_or] at hj
    simp only [upd, beq_ne hj.1, beq_ne hj.2, cond_false]
theorem putN_out {r : Nat → ME} {j : Nat} : ∀ {l : List (Nat × Nat)} {m : Nat → ME}, (∀ p ∈ l, p.2 ≠ j) → putN r l m j = m j
  | [], _, _ => rfl
  | (i, k) :: l, m, h => by
    have e : j ≠ k := fun e => h (i, k) (List.mem_cons_self ..) e.symm
    simp only [putN, upd, beq_ne e, cond_false]
    exact putN_out fun p hp => h p (List.mem_cons_of_mem _ hp)
theorem back_out {r : Nat → ME} {j : Nat} : ∀ {l : List (Nat × Nat × List Nat)} {m : Nat → ME}, (∀ p ∈ l, p.2.1 ≠ j) → back m r l j = m j
  | [], _, _ => rfl
  | (i, k, q) :: l, m, h => by
    have e : j ≠ k := fun e => h (i, k, q) (List.mem_cons_self ..) e.symm
    simp only [back, beq_ne e, cond_false]
    exact back_out fun p hp => h p (List.mem_cons_of_mem _ hp)
theorem lent_good (fl : Bool) (pl : List Nat) (m : Nat → ME) : Good m (lentM fl pl m) := by
  unfold lentM
  cases fl
  · exact good_next (good_freezeIn pl m) (good_stillIn pl _)
  · exact good_nil m
theorem callB_good {E : Env} {dst : Option Nat} {io : List (Nat × Nat × List Nat)} {pl news : List Nat} {x : AV} {r : Nat → ME} {F : Eff} (h : callB E m dst io pl news x r some = some F) : Good m F.M := by
  unfold callB at h
  simp only at h
  rcases cond_some h with ⟨_, h⟩ | ⟨_, h⟩
  rotate_left
  · cases h
  generalize flatC r x io news = fl at h
  have hA := lent_good fl pl m
  generalize lentM fl pl m = A at h hA
  cases dst with
  | none =>
    injection h with h
    subst h
    exact good_mem hA fun j hj => back_out fun p hp e => hj (List.mem_map.2 ⟨p, hp, e⟩)
  | some d =>
    simp only at h
    rcases cond_some h with ⟨_, h⟩ | ⟨_, h⟩
    rotate_left
    · cases h
    injection h with h
    subst h
    generalize namesOf d 0 news = ns
    have hB := good_dropIn (ns.map fun (p : Nat × Nat) => p.2) A.m
    generalize dropInM (ns.map fun (p : Nat × Nat) => p.2) A.m = B at hB
    have hAB := good_comp hA hB
    have hABm := good_mem (m' := putN r ns (back B.m r io)) (l := (io.map fun (p : Nat × Nat × List Nat) => p.2.1) ++ ns.map fun (p : Nat × Nat) => p.2) hAB fun j hj => by
      rw [putN_out fun p hp e => hj (List.mem_append_right _ (List.mem_map.2 ⟨p, hp, e⟩))]
      exact back_out fun p hp e => hj (List.mem_append_left _ (List.mem_map.2 ⟨p, hp, e⟩))
    have hC : Good (putN r ns (back B.m r io)) (match E.objs d with
          | some _ => Mo.nil (putN r ns (back B.m r io))
          | none => freezeInM (ns.map fun (p : Nat × Nat) => p.2) (putN r ns (back B.m r io))) := by
      split
      · exact good_nil _
      · exact good_freezeIn _ _
    have := good_comp hABm hC
    simp only [List.append_assoc] at this ⊢
    exact this
theorem callK_good {E : Env} {dst : Option Nat} {f : Nat} {args : List AV} {F : Eff} (h : callK E m dst f args some = some F) : Good m F.M := by
  unfold callK at h
  simp only at h
  rcases cond_some h with ⟨_, h⟩ | ⟨_, h⟩
  rotate_left
  · cases h
  split at h
  · obtain ⟨a, _, h⟩ := Option.bind_eq_some_iff.1 h
    exact callB_good h
  · cases h
theorem putL_out {j : Nat} {l : List (Nat × ME)} {m : Nat → ME} (h : j ∉ l.map fun (p : Nat × ME) => p.1) : putL l m j = m j := putL_other fun p hp e => h (List.mem_map.2 ⟨p, hp, e⟩)
theorem markK_good {E : Env} {d dp : Nat} {v : AV} {F : Eff} (h : markK E m d dp v some = some F) : Good m F.M := by
  unfold markK at h
  split at h
  · rcases cond_some h with ⟨_, h⟩ | ⟨_, h⟩
    · injection h with h; subst h; exact good_newObj ..
    · cases h
  · rcases cond_some h with ⟨_, h⟩ | ⟨_, h⟩
    · injection h with h; subst h; exact good_ren ..
    · injection h with h; subst h; exact good_nil m
  · rcases cond_some h with ⟨_, h⟩ | ⟨_, h⟩
    · injection h with h
      subst h
      rename_i l _
      have hB := good_dropIn ((nilNames d dp 0 l).map fun (p : Nat × ME) => p.1) m
      have := good_mem (m' := putL (nilNames d dp 0 l) (dropInM ((nilNames d dp 0 l).map fun (p : Nat × ME) => p.1) m).m) hB fun j hj => putL_out hj
      refine ⟨fun x hx => this.1 x (clear3_mono (fun i hi => ?_) hx), fun j hj hc => this.2 j (fun hi => hj ?_) (clearM_mono (fun i hi => ?_) hc)⟩
      · rcases List.mem_append.1 hi with hi | hi
        · exact hi
        · show i ∈ (dropInM _ m).ids; rw [dropIn_ids]; exact hi
      · rcases List.mem_append.1 hi with hi | hi
        · exact hi
        · show j ∈ (dropInM _ m).ids; rw [dropIn_ids]; exact hi
      · rcases List.mem_append.1 hi with hi | hi
        · exact hi
        · show i ∈ (dropInM _ m).ids; rw [dropIn_ids]; exact hi
    · cases h
  · injection h with h; subst h; exact good_nil m
theorem newK_good {E : Env} {ev : Nat → Operand → AV} {ty : Nat} {op : Op} {d dp : Nat} {F : Eff} (h : newK E ev m ty op d dp some = some F) : Good m F.M := by
  unfold newK at h
  split at h
  · refine valK_good h fun v h => ?_
    split at h
    · rcases cond_some h with ⟨_, h⟩ | ⟨_, h⟩
      · injection h with h; subst h; exact good_newObj ..
      · cases h
    · cases h
  · rcases cond_some h with ⟨_, h⟩ | ⟨_, h⟩
    · simp only at h
      refine valK_good h fun v h => ?_
      split at h
      · rcases cond_some h with ⟨_, h⟩ | ⟨_, h⟩
        · injection h with h; subst h; exact good_next (good_freezeIn _ _) (good_newObj ..)
        · cases h
      · cases h
    · split at h
      · split at h
        · split at h
          · rcases cond_some h with ⟨_, h⟩ | ⟨_, h⟩
            · injection h with h
              subst h
              refine good_lift (fun z hz => wrap_clear (by simp) (by simp) hz) fun j hj => ?_
              simp only [List.mem_cons, List.not_mem_nil, or_false, not_or] at hj
              simp only [upd, beq_ne hj.1, beq_ne hj.2, cond_false]
            · cases h
          · cases h
        · cases h
      · cases h
  · exact valK_good h fun v h => markK_good h
theorem eff_good {E : Env} {ev : Nat → Operand → AV} {o : Oper} {F : Eff} (h : effK E ev m o some = some F) : Good m F.M := by
  have dropped : ∀ (d : Nat) (X : ME), Good m ⟨(dropM d m).f, upd (dropM d m).m d X, [d]⟩ := fun d X => good_lift (fun y hy => drop_clear mem1 hy) fun j hj => by
    simp only [upd, beq_ne (ne1 hj), cond_false]; exact drop_other m (ne1 hj)
  unfold effK at h
  split at h
  · rename_i T _
    split at h
    · rename_i d _
      rcases cond_some h with ⟨_, h⟩ | ⟨_, h⟩
      rotate_left
      · cases h
      rcases cond_some h with ⟨_, h⟩ | ⟨_, h⟩
      · split at h
        · rcases cond_some h with ⟨_, h⟩ | ⟨_, h⟩
          · injection h with h; subst h; exact dropped ..
          · cases h
        · cases h
      · split at h
        · injection h with h; subst h; exact dropped ..
        · rename_i dp _
          injection h with h
          subst h
          generalize hnn : nilNames d dp 0 (E.ty T).zero = nn
          have hB := good_dropIn (nn.map fun (p : Nat × ME) => p.1) m
          have h1 := good_mem (m' := putL nn (dropInM (nn.map fun (p : Nat × ME) => p.1) m).m) hB fun j hj => putL_out hj
          have h2 : Good (putL nn (dropInM (nn.map fun (p : Nat × ME) => p.1) m).m) ⟨(dropM d (putL nn (dropInM (nn.map fun (p : Nat × ME) => p.1) m).m)).f, upd (dropM d (putL nn (dropInM (nn.map fun (p : Nat × ME) => p.1) m).m)).m d (.box (nilCells d 0 (E.ty T).zero)), [d]⟩ :=
            good_lift (fun y hy => drop_clear mem1 hy) fun j hj => by simp only [upd, beq_ne (ne1 hj), cond_false]; exact drop_other _ (ne1 hj)
          refine good_ids (good_comp h1 h2) fun i hi => ?_
          show i ∈ (dropInM _ m).ids ++ [d]
          rw [dropIn_ids]
          simp only [List.append_assoc, List.mem_append, dropIn_ids] at hi ⊢
          rcases hi with hi | hi | hi
          · exact .inl hi
          · exact .inl hi
          · exact .inr hi
    · cases h
  · split at h
    · rcases cond_some h with ⟨_, h⟩ | ⟨_, h⟩
      · injection h with h; subst h; exact dropped ..
      · cases h
    · cases h
  · split at h
    · exact storeK_good h
    · cases h
  · split at h
    · split at h
      · rcases cond_some h with ⟨_, h⟩ | ⟨_, h⟩
        · cases h
        · exact callK_good h
      · cases h
    · split at h
      · rcases cond_some h with ⟨_, h⟩ | ⟨_, h⟩
        · exact appendK_good h
        · cases h
      · cases h
    · refine valK_good h fun v h => ?_
      injection h with h; subst h; exact good_nil m
  · split at h
    · split at h
      · exact newK_good h
      · simp only at h
        refine valK_good h fun v h => ?_
        injection h with h; subst h; exact good_freezeIn _ _
    · refine valK_good h fun v h => ?_
      injection h with h; subst h; exact good_nil m
/-- What leaves all references alone. -/
def Still (m : Nat → ME) (M : Mo) : Prop := (∀ x, M.f x = x) ∧ ∀ j, j ∉ M.ids → M.m j = m j
theorem storeK_still {E : Env} {T : Nat} {x v : AV} {F : Eff} (hv : v.cells.all AV.noRef = true) (h : storeK E m T x v some = some F) : Still m F.M := by
  have done : ∀ {id : Nat} {X : ME}, some (⟨none, ⟨fun x => x, upd m id X, [id]⟩⟩ : Eff) = some F → Still m F.M := fun h => by
    injection h with h; subst h
    exact ⟨fun _ => rfl, fun j hj => by simp only [upd, beq_ne (ne1 hj), cond_false]⟩
  unfold storeK at h
  split at h
  · split at h
    · rcases cond_some h with ⟨_, h⟩ | ⟨_, h⟩
      · exact done h
      · cases h
    · split at h
      · rcases cond_some h with ⟨_, h⟩ | ⟨_, h⟩
        · split at h
          · exact done h
          · cases h
        · cases h
      · cases h
    · cases h
  · rcases cond_some h with ⟨_, h⟩ | ⟨_, h⟩
    rotate_left
    · cases h
    split at h
    rotate_left
    · cases h
    rename_i c hc
    split at h
    · split at h
      · split at h
        · exact done h
        · cases h
      · cases h
    · split at h
      rotate_left
      · cases h
      rcases cond_some h with ⟨_, h⟩ | ⟨_, h⟩
      · split at h
        rotate_left
        · cases h
        rw [hc] at hv
        simp [AV.noRef] at hv
      · split at h
        rotate_left
        · cases h
        split at h
        · exact done h
        · cases h
    · cases h
  · cases h
theorem callK_still {E : Env} {dst : Option Nat} {f : Nat} {args : List AV} {F : Eff} (hp : (plainL (E.muts f) 0 args).isEmpty = true) (hn : (match E.calls f (lendAs m (E.muts f) 0 args) (lendM m (ioL (E.muts f) 0 args)) with
          | some c => c.news.isEmpty
          | none => false) = true) (h : callK E m dst f args some = some F) : Still m F.M := by
  unfold callK at h
  simp only at h
  rcases cond_some h with ⟨_, h⟩ | ⟨_, h⟩
  rotate_left
  · cases h
  have hp : plainL (E.muts f) 0 args = [] := List.isEmpty_iff.1 hp
  rw [hp] at h
  split at h
  rotate_left
  · cases h
  rename_i c hc
  rw [hc] at hn
  have hn : c.news = [] := List.isEmpty_iff.1 hn
  obtain ⟨a, _, h⟩ := Option.bind_eq_some_iff.1 h
  rw [hn] at h
  generalize ioL (E.muts f) 0 args = io at h
  generalize (c.enc a).1 = x at h
  generalize (c.enc a).2 = r at h
  unfold callB at h
  simp only at h
  rcases cond_some h with ⟨_, h⟩ | ⟨_, h⟩
  rotate_left
  · cases h
  generalize flatC r x io [] = fl at h
  have hA : ∀ fl, (∀ y, (lentM fl [] m).f y = y) ∧ (lentM fl [] m).m = m ∧ (lentM fl [] m).ids = [] := fun fl => by cases fl <;> exact ⟨fun _ => rfl, rfl, rfl⟩
  cases dst with
  | none =>
    injection h with h
    subst h
    refine ⟨(hA fl).1, fun j hj => ?_⟩
    show back (lentM fl [] m).m r io j = m j
    rw [(hA fl).2.1]
    exact back_out fun p hp e => hj (List.mem_append_right _ (List.mem_map.2 ⟨p, hp, e⟩))
  | some d =>
    simp only [namesOf, List.map_nil] at h
    rcases cond_some h with ⟨_, h⟩ | ⟨_, h⟩
    rotate_left
    · cases h
    injection h with h
    subst h
    have e : ∀ j, j ∉ io.map (fun (p : Nat × Nat × List Nat) => p.2.1) → back (lentM fl [] m).m r io j = m j := fun j hj => by
      rw [(hA fl).2.1]
      exact back_out fun p hp e => hj (List.mem_map.2 ⟨p, hp, e⟩)
    have hin : ∀ j, j ∈ io.map (fun (p : Nat × Nat × List Nat) => p.2.1) → ∀ (a b c d : List Nat), j ∈ a ++ b ++ io.map (fun (p : Nat × Nat × List Nat) => p.2.1) ++ c ++ d := fun j hj a b c d => by simp only [List.mem_append]; exact .inl (.inl (.inr hj))
    cases E.objs d with
    | some _ => exact ⟨(hA fl).1, fun j hj => e j fun h => hj (hin j h _ _ _ _)⟩
    | none => exact ⟨(hA fl).1, fun j hj => e j fun h => hj (hin j h _ _ _ _)⟩
theorem eff_still {E : Env} {ev : Nat → Operand → AV} {o : Oper} {F : Eff} (hs : stillOp E ev m o = true) (h : effK E ev m o some = some F) : Still m F.M := by
  unfold stillOp at hs
  split at hs
  · rename_i T a x hop
    simp only [effK, hop] at h
    split at h
    · exact storeK_still hs h
    · cases h
  · rename_i c hop
    split at hs
    · rename_i f hf
      split at hs
      · rename_i g caps hg
        simp only [Bool.and_eq_true] at hs
        simp only [effK, hop, hf, hg] at h
        rcases cond_some h with ⟨_, h⟩ | ⟨_, h⟩
        · cases h
        · exact callK_still hs.1 hs.2 h
      · cases hs
    · cases hs
  · cases hs
end
end Go.Proofs.Ytckieogkaodkdaa.V
