/- Operations: what the abstract run says, the model's does. -/
import Derived.Test.YtckieogkaodkdaaWg
import Derived.Maps.AppendAt
set_option linter.unusedVariables false
set_option linter.unusedSimpArgs false
namespace Go.Proofs.Ytckieogkaodkdaa.V
open Go Go.RowKit

/-! ### an operation's value does not depend on what is done with it -/
section
variable {ρ σ : Type} {κ : AV → Option ρ} {f : ρ → Option σ}
theorem cond_bind {α β : Type} {b : Bool} {x y : Option α} {f : α → Option β} : (bif b then x else y).bind f = bif b then x.bind f else y.bind f := by cases b <;> rfl
theorem intK_bind (op : BinOp) (k : IntKind) (x y : Int) : (intK op k x y κ).bind f = intK op k x y fun v => (κ v).bind f := by cases op <;> simp [intK, cond_bind]
theorem shiftK_bind (op : BinOp) (k : IntKind) (x y : Int) : (shiftK op k x y κ).bind f = shiftK op k x y fun v => (κ v).bind f := by cases op <;> simp [shiftK, cond_bind]
theorem strK_bind (op : BinOp) (x y : ByteArray) : (strK op x y κ).bind f = strK op x y fun v => (κ v).bind f := by cases op <;> simp [strK, cond_bind]
theorem binK_bind (op : BinOp) (tk : TK) (a b : AV) : (binK op tk a b κ).bind f = binK op tk a b fun v => (κ v).bind f := by
  unfold binK
  split
  · rw [cond_bind, shiftK_bind]
    congr 1
    split
    · rw [intK_bind]
    · rfl
  · rw [strK_bind]
  · split <;> rfl
  · rfl
theorem unK_bind (op : UnOp) (a : AV) : (unK op a κ).bind f = unK op a fun v => (κ v).bind f := by
  unfold unK; split <;> rfl
theorem pickK_bind (c : Bool) (a b : AV) : (pickK c a b κ).bind f = pickK c a b fun v => (κ v).bind f := by
  unfold pickK
  split
  · split
    · rfl
    · rw [cond_bind]
  · rw [cond_bind]
theorem boundK_bind {i : Int} {n : Nat} {A : Option ρ} : (boundK i n A).bind f = boundK i n (A.bind f) := by
  unfold boundK; simp [cond_bind]
theorem loadCells_bind (i : TI) (l : List AV) : (loadCells i l κ).bind f = loadCells i l fun v => (κ v).bind f := by
  unfold loadCells
  simp only [cond_bind]
  split <;> rfl
theorem loadK_bind (E : Env) (m : Nat → ME) (T : Nat) (a : AV) : (loadK E m T a κ).bind f = loadK E m T a fun v => (κ v).bind f := by
  unfold loadK
  repeat' first
    | rfl
    | rw [loadCells_bind]
    | (rw [cond_bind]; rfl)
    | split
theorem fieldAddrK_bind (E : Env) (T n : Nat) (a : AV) : (fieldAddrK E T n a κ).bind f = fieldAddrK E T n a fun v => (κ v).bind f := by
  unfold fieldAddrK
  repeat' first
    | rfl
    | (rw [cond_bind]; rfl)
    | split
theorem indexAddrK_bind (E : Env) (m : Nat → ME) (T : Nat) (x i : AV) : (indexAddrK E m T x i κ).bind f = indexAddrK E m T x i fun v => (κ v).bind f := by
  unfold indexAddrK
  repeat' first
    | rfl
    | rw [boundK_bind]
    | (rw [cond_bind, boundK_bind]; rfl)
    | split
theorem indexK_bind (x i : AV) : (indexK x i κ).bind f = indexK x i fun v => (κ v).bind f := by
  unfold indexK
  repeat' first
    | rfl
    | rw [boundK_bind]
    | split
theorem convK_bind (E : Env) (s d : Nat) (a : AV) : (convK E s d a κ).bind f = convK E s d a fun v => (κ v).bind f := by
  unfold convK
  split
  · rfl
  · rfl
  · split <;> rfl
  · split
    · rw [cond_bind]; rfl
    · rfl
  · rfl
theorem sliceK_bind (x : AV) (lo hi : Option AV) : (sliceK x lo hi κ).bind f = sliceK x lo hi fun v => (κ v).bind f := by
  unfold sliceK
  split
  · split <;> simp [boundK_bind]
  · split <;> simp [boundK_bind]
  · rfl
theorem lenK_bind (m : Nat → ME) (x : AV) : (lenK m x κ).bind f = lenK m x fun v => (κ v).bind f := by
  unfold lenK
  repeat' first
    | rfl
    | split
theorem callV_bind (E : Env) (m : Nat → ME) (g : Nat) (args : List AV) : (callV E m g args κ).bind f = callV E m g args fun v => (κ v).bind f := by
  unfold callV
  simp only [cond_bind]
  congr 1
  split
  · rw [Option.bind_assoc]; simp only [cond_bind]; rfl
  · rfl
theorem valK0_bind (E : Env) (ev : Nat → Operand → AV) (m : Nat → ME) (ty : Nat) (op : Op) : (valK0 E ev m ty op κ).bind f = valK0 E ev m ty op fun v => (κ v).bind f := by
  unfold valK0
  repeat' first
    | rfl
    | rw [pickK_bind]
    | rw [loadK_bind]
    | rw [binK_bind]
    | rw [unK_bind]
    | rw [convK_bind]
    | rw [sliceK_bind]
    | rw [fieldAddrK_bind]
    | rw [indexAddrK_bind]
    | rw [indexK_bind]
    | rw [loadCells_bind]
    | rw [callV_bind]
    | rw [lenK_bind]
    | (simp only [cond_bind]; done)
    | (simp only [cond_bind]; rfl)
    | (rw [cond_bind]; congr 1)
    | split
theorem valK_bind (E : Env) (ev : Nat → Operand → AV) (m : Nat → ME) (ty : Nat) (op : Op) : (valK E ev m ty op κ).bind f = valK E ev m ty op fun v => (κ v).bind f := by
  unfold valK
  rw [cond_bind, valK0_bind]; rfl
/-- The value, and what is done with it. -/
theorem valK_some {E : Env} {ev : Nat → Operand → AV} {m : Nat → ME} {ty : Nat} {op : Op} {r : ρ} (h : valK E ev m ty op κ = some r) : ∃ x, valK E ev m ty op some = some x ∧ κ x = some r := by
  have e : valK E ev m ty op κ = (valK E ev m ty op some).bind κ := by rw [valK_bind]; rfl
  rw [e] at h
  exact Option.bind_eq_some_iff.1 h
end

/-! ### an operation's value depends on its operands alone -/
theorem valK_congr {ρ : Type} {κ : AV → Option ρ} (E : Env) {ev ev' : Nat → Operand → AV} (m : Nat → ME) (ty : Nat) (op : Op) (h : ∀ T x, x ∈ op.operands.toList → ev T x = ev' T x) : valK E ev m ty op κ = valK E ev' m ty op κ := by
  unfold valK
  have h1 : sane E ev op = sane E ev' op := by
    cases op <;> simp only [sane] <;> first
      | rfl
      | (rename_i T x i; rw [h T x (by simp [Op.operands])])
      | (rename_i T x l hh mx; rw [h T x (by simp [Op.operands])])
      | skip
    rename_i c
    congr 1
    split
    · split
      · rename_i x hx
        rw [h _ x (by simp [Op.operands, Call.operands, hx])]
      · rfl
    · rfl
  have h2 : valK0 E ev m ty op κ = valK0 E ev' m ty op κ := by
    cases op <;> simp only [valK0] <;> first
      | rfl
      | (rw [h _ _ (by simp [Op.operands])]; done)
      | (rw [h _ _ (by simp [Op.operands]), h _ _ (by simp [Op.operands])]; done)
      | skip
    case pick c a b => rw [h 0 c (by simp [Op.operands]), h ty a (by simp [Op.operands]), h ty b (by simp [Op.operands])]
    case build T ps =>
      have e : (ps.toList.map fun p => (p.1, ev (((E.ty T).flds[p.1]?).getD (0, 0)).2 p.2)) = ps.toList.map fun p => (p.1, ev' (((E.ty T).flds[p.1]?).getD (0, 0)).2 p.2) :=
        List.map_congr_left fun p hp => by rw [h _ p.2 (by simp only [Op.operands, List.toList_toArray, List.mem_map]; exact ⟨p, hp, rfl⟩)]
      rw [e]
    case buildSlice T n ps =>
      have e : (ps.toList.map fun p => ev (E.ty T).elem p.2) = ps.toList.map fun p => ev' (E.ty T).elem p.2 :=
        List.map_congr_left fun p hp => by rw [h _ p.2 (by simp only [Op.operands, List.toList_toArray, List.mem_map]; exact ⟨p, hp, rfl⟩)]
      rw [e]
    case makeFunc fn first caps =>
      have e : caps.toList.map (ev 0) = caps.toList.map (ev' 0) := List.map_congr_left fun p hp => h 0 p (by simp only [Op.operands, Array.toList_append, List.mem_append]; exact .inr hp)
      cases fn <;> simp only
      rw [e]
    case slice T x lo hi mx =>
      cases mx with
      | some _ => rfl
      | none =>
        simp only
        rw [h T x (by simp [Op.operands])]
        have e1 : lo.map (ev 0) = lo.map (ev' 0) := by
          cases lo with
          | none => rfl
          | some l => simp only [Option.map_some]; rw [h 0 l (by simp [Op.operands])]
        have e2 : hi.map (ev 0) = hi.map (ev' 0) := by
          cases hi with
          | none => rfl
          | some l => simp only [Option.map_some]; rw [h 0 l (by simp [Op.operands])]
        rw [e1, e2]
    case call c =>
      have ha : ∀ T x, x ∈ c.args.toList → ev T x = ev' T x := fun T x hx => h T x (by simp only [Op.operands, Call.operands, Array.toList_append, List.mem_append]; exact .inr hx)
      split
      · rename_i f hf
        rw [h 0 f (by simp [Op.operands, Call.operands, hf])]
        have e : (c.args.toList.zip c.argTypes.toList).map (fun p => ev p.2 p.1) = (c.args.toList.zip c.argTypes.toList).map fun p => ev' p.2 p.1 := List.map_congr_left fun p hp => ha _ _ (List.of_mem_zip hp).1
        rw [e]
      · split
        · rename_i x hx; rw [ha _ x (by rw [hx]; simp)]
        · rfl
      · split
        · rename_i x y hx; rw [ha _ x (by rw [hx]; simp), ha _ y (by rw [hx]; simp)]
        · rfl
      · split
        · rename_i x y hx; rw [ha _ x (by rw [hx]; simp), ha _ y (by rw [hx]; simp)]
        · rfl
      · rfl
  rw [h1, h2]

/-! ### an operation that yields a value -/
section
variable {P : Program} {E : Env} {w0 : World} {io : Nat → Prop} {S : St} {g : GM} {a : Act} {w : World}
def Yd (P : Program) (S : St) (g : GM) (a : Act) (w : World) (o : Oper) (x : AV) : Prop :=
  ∀ (K : Act → World → Prop) (Q : Exit → Act → World → Prop), (∀ V w', More w w' → R3 w' (okOf w' S.m g) S.m g x V → K (a.put o.dst V) w') → o.wp P a w K Q
theorem Yields.yd {o : Oper} {x : AV} (h : Yields P S g a w o some x) : Yd P S g a w o x := by
  obtain ⟨y, V, w', h1, h2, h3, h4⟩ := h
  injection h1 with h1; subst h1
  intro K Q hK
  unfold Oper.wp
  rw [h4]
  exact hK V w' h2 h3
theorem isSl_iff {k : TK} (h : isSl k = true) : ∃ e, k = .sl e := by cases k <;> simp [isSl] at h; exact ⟨_, rfl⟩
theorem isSt_iff {k : TK} (h : isSt k = true) : ∃ e, k = .st e := by cases k <;> simp [isSt] at h; exact ⟨_, rfl⟩
theorem isStr_iff {k : TK} (h : isStr k = true) : k = .str := by cases k <;> simp [isStr] at h; rfl
theorem args_rel (h : SR w0 io E.ntmps S g a w) (l : List (Operand × Nat)) : All2 (R3 w (okOf w S.m g) S.m g) (l.map fun p => S.ev E p.2 p.1) (l.map fun p => a.eval p.1) := by
  induction l with
  | nil => exact .nil
  | cons p l ih => exact .cons (ev_ok h _ _) ih
theorem zip_fst : ∀ {α β : Type} {l : List α} {l' : List β}, l.length ≤ l'.length → (l.zip l').map (·.1) = l
  | _, _, [], _, _ => by simp
  | _, _, a :: l, [], h => by simp at h
  | _, _, a :: l, b :: l', h => by simp only [List.zip_cons_cons, List.map_cons, zip_fst (l := l) (l' := l') (by simpa using h)]
/-- How a call of a function value is made. -/
theorem call_run {c : Call} {f : Operand} (hcal : c.callee = .value f) {o : Oper} (ho : o.op = .call c) {id : Nat} {caps : Array Value} (hf : a.eval f = .func (.func id) #[] caps) :
    (execOp a.eval o).run P w = (callFunc id (c.args.map a.eval ++ caps)).run P w := by
  simp [execOp, ho, resolve, hcal, hf, Deferred.ofValue, invoke]
theorem call_args (h : SR w0 io E.ntmps S g a w) {c : Call} (hlen : c.args.toList.length ≤ c.argTypes.toList.length) {caps : List AV} {vs : Array Value} (hcaps : All2 (RC w (okOf w S.m g) S.m g) caps vs.toList) :
    All2 (R3 w (okOf w S.m g) S.m g) ((c.args.toList.zip c.argTypes.toList).map (fun p => S.ev E p.2 p.1) ++ caps) (c.args.map a.eval ++ vs).toList := by
  have e : (c.args.map a.eval ++ vs).toList = (c.args.toList.zip c.argTypes.toList).map (fun p => a.eval p.1) ++ vs.toList := by
    rw [Array.toList_append, Array.toList_map]
    congr 1
    exact (congrArg (List.map a.eval) (zip_fst hlen).symm).trans (by rw [List.map_map]; rfl)
  rw [e]
  exact (args_rel h _).append (hcaps.mono fun _ _ hr => R3.of0 hr.to0)
theorem val_ok (hT : ∀ t, (E.ty t).known = true → TyOK P t (E.ty t)) (hc : ∀ f, CallOK P f (E.calls f)) (h : SR w0 io E.ntmps S g a w) {o : Oper} (hkn : known E (opTys E o.op) = true) {x : AV}
    (hk : valK E (S.ev E) S.m o.type o.op some = some x) : Yd P S g a w o x := by
  have hT : ∀ t ∈ opTys E o.op, TyOK P t (E.ty t) := fun t ht => hT t (List.all_eq_true.1 hkn t ht)
  unfold valK at hk
  rcases cond_some hk with ⟨hs, hk⟩ | ⟨_, hk⟩
  rotate_left
  · cases hk
  generalize hop : o.op = op at *
  unfold valK0 at hk
  split at hk
  · exact (y_move h (.inl hop) hk).yd
  · exact (y_move h (.inr hop) hk).yd
  · split at hk
    · rename_i hcv; exact (y_pick h hop hcv hk).yd
    · cases hk
  · rename_i T parts _
    rcases har : (E.ty T).isArr with _ | _
    · simp only [har, cond_false] at hk
      have hst : isSt (E.ty T).kind = true := by simpa only [sane, har, Bool.or_false] using hs
      split at hk
      · rename_i l hl
        exact (y_build h (hT _ (by simp [opTys, har])) hop (isSt_iff hst) (fun p hp => hT _ (by simp only [opTys, har, cond_false, List.mem_cons, List.mem_map]; exact .inr ⟨p, hp, rfl⟩)) hl hk).yd
      · cases hk
    · simp only [har, cond_true] at hk
      split at hk
      · rename_i e hp he
        rcases cond_some hk with ⟨hz, hk⟩ | ⟨_, hk⟩
        · exact (y_buildArr h (hT _ (by simp [opTys, har])) har (hT _ (by simp [opTys, har])) hop hp he (beq_true hz) hk).yd
        · cases hk
      · cases hk
  · rcases cond_some hk with ⟨hb, hk⟩ | ⟨_, hk⟩
    rotate_left
    · cases hk
    simp only [Bool.and_eq_true] at hb
    split at hk
    · split at hk
      · rename_i e xs hxs
        rcases cond_some hk with ⟨hz, hk⟩ | ⟨_, hk⟩
        · exact (y_buildSlice h (hT _ (by simp [opTys])) (isSl_iff hs) (hT _ (by simp [opTys])) hop (beq_true hb.1.1) hb.1.2 (Nat.le_of_ble_eq_true hb.2) hxs (beq_true hz) hk).yd
        · cases hk
      · cases hk
    · cases hk
  · exact (y_load h (hT _ (by simp [opTys])) hop hk).yd
  · split at hk
    · rename_i id off hv; exact (y_nilCheck h hop hv (.inl ⟨_, _, rfl⟩) hk).yd
    · rename_i l hv; exact (y_nilCheck h hop hv (.inr (.inl ⟨_, rfl⟩)) hk).yd
    · rename_i id q i hv; exact (y_nilCheck h hop hv (.inr (.inr ⟨_, _, _, rfl⟩)) hk).yd
    · cases hk
  · exact (y_binOp h (hT _ (by simp [opTys])) hop hk).yd
  · exact (y_unOp h hop hk).yd
  · rename_i s t y
    refine (y_convert h (hT _ ?_) (hT _ ?_) (fun e he => hT _ ?_) (fun e hs' he => hT _ ?_) hop hk).yd
    · simp only [opTys]; split <;> simp
    · simp only [opTys]; split <;> simp
    · simp only [opTys, he]; simp
    · simp only [opTys, hs', he]; simp
  · rcases cond_some hk with ⟨hb, hk⟩ | ⟨_, hk⟩
    · simp only [Bool.and_eq_true] at hb
      exact (y_makeFunc h hop (beq_true hb.1) hb.2 hk).yd
    · cases hk
  · split at hk
    · rename_i n e hl he
      rcases cond_some hk with ⟨hb, hk⟩ | ⟨_, hk⟩
      rotate_left
      · cases hk
      rcases cond_some hk with ⟨hn, hk⟩ | ⟨_, hk⟩
      rotate_left
      · cases hk
      rcases cond_some hk with ⟨hf, hk⟩ | ⟨_, hk⟩
      rotate_left
      · cases hk
      simp only [Bool.and_eq_true] at hb
      exact (y_makeSlice h (hT _ (by simp [opTys])) (isSl_iff hs) (hT _ (by simp [opTys])) hop hl hb.1.1 (of_decide_eq_true hn) hf he (beq_true hb.1.2) (beq_true hb.2) hk).yd
    · cases hk
  · rename_i T y lo hi _
    refine (y_slice h (hT _ ?_) hop (fun s hv => ?_) (fun T' e xs hv => ?_) hk).yd
    · simp only [opTys]; split <;> simp
    · simp only [sane, hv] at hs; exact isStr_iff hs
    · simp only [sane, hv, Bool.and_eq_true] at hs
      obtain ⟨el, hel⟩ := isSl_iff hs.1
      have : (E.ty T).elem = el := by simp only [TI.elem, hel]
      exact ⟨el, hel, hT _ (by simp only [opTys, hel]; simp), by rw [← this]; exact beq_true hs.2⟩
  · rename_i T y n
    refine (y_fieldAddr h (hT _ (by simp [opTys])) (fun p hp => ⟨hT _ (by simp [opTys, hp]), ?_⟩) hop hk).yd
    simp only [sane, hp] at hs
    exact Nat.le_of_ble_eq_true hs
  · split at hk
    · rename_i l off t hl hp
      exact (y_field h (hT _ (by simp [opTys])) hop hl hp (hT _ (by simp [opTys, hp])) hk).yd
    · cases hk
  · rename_i T y i _
    refine (y_indexAddr h (hT _ (by simp [opTys])) (hT _ (by simp [opTys])) hop ?_ hk).yd
    simp only [sane] at hs
    generalize nrm (S.ev E T y) = Y at hs ⊢
    split at hs
    · simp only [Bool.and_eq_true] at hs
      exact ⟨isSl_iff hs.1, beq_true hs.2⟩
    · simp only [Bool.and_eq_true] at hs
      exact ⟨isArr_iff.1 hs.1, beq_true hs.2⟩
    · rename_i h1 h2
      simp only [Bool.and_eq_true] at hs
      cases Y <;> first | exact absurd rfl (h2 _ _) | exact ⟨isSl_iff hs.1, beq_true hs.2⟩ | skip
      rename_i e x
      cases e <;> first | exact absurd rfl (h1 _ _ _) | exact ⟨isSl_iff hs.1, beq_true hs.2⟩
  · rename_i T y i _
    refine (y_index h (hT _ ?_) (fun har => hT _ ?_) hop ?_ hk).yd
    · simp only [opTys]; cases (E.ty T).isArr <;> simp
    · simp [opTys, har]
    · simp only [sane] at hs
      generalize S.ev E T y = Y at hs ⊢
      split at hs
      · simp only [Bool.and_eq_true, Bool.not_eq_true'] at hs
        obtain ⟨⟨⟨h1, h2⟩, h3⟩, h4⟩ := hs
        refine ⟨?_, beq_true h2, h3, h4⟩
        split at h1
        · rename_i k el hkd; exact ⟨el, by rw [hkd, beq_true h1]⟩
        · cases h1
      · rename_i h1
        cases Y <;> first | exact absurd rfl (h1 _ _ _) | exact isStr_iff hs
  · split at hk
    · rename_i l hl
      split at hk
      · rename_i v hv; exact (y_extract h hop hl hv hk).yd
      · cases hk
    · cases hk
  · rename_i c _
    split at hk
    · rename_i f hcal
      split at hk
      · rename_i id caps hf
        simp only [sane, hcal, Bool.and_true] at hs
        have hF := ev_ok h 0 f
        rw [hf] at hF
        obtain ⟨vs, hv, hcaps⟩ := hF
        intro K Q hK
        unfold Oper.wp
        rw [call_run hcal hop hv]
        exact callV_ok hc h (call_args h (Nat.le_of_ble_eq_true hs) hcaps) hk o a K Q fun v w' ⟨y, hy, hm, hr⟩ => hK v w' hm (by injection hy with hy; exact hy ▸ hr)
      · cases hk
    · rename_i hcal
      split at hk
      · rename_i y hy
        simp only [sane, hcal, hy, Bool.and_eq_true] at hs
        obtain ⟨hlen, hs⟩ := hs
        have hlen := Nat.le_of_ble_eq_true hlen
        obtain ⟨T, hT0⟩ : ∃ T, c.argTypes.toList[0]? = some T := ⟨_, List.getElem?_eq_getElem (Nat.lt_of_lt_of_le Nat.zero_lt_one hlen)⟩
        have hTT : argTy c 0 = T := by simp only [argTy, hT0]; rfl
        rw [hTT] at hs hk
        refine (y_len h (T := T) (hT _ (by simp [opTys, hcal, hT0])) ?_ hop hcal hy hT0 hk ?_ ?_).yd
        · split at hs
          · exact .inr (isStr_iff hs)
          · exact .inl (isSl_iff hs)
        · split at hs
          · exact .inr ⟨_, by assumption⟩
          · exact .inl (isSl_iff hs)
        · split at hs
          · exact .inl (isStr_iff hs)
          · rename_i hne; exact .inr hne
      · cases hk
    · rename_i hcal
      split at hk
      · rename_i y z hy
        split at hk
        · rename_i k u k' v hu hv
          split at hk
          · rename_i e; subst e; exact (y_max h hop hcal hy hu hv hk).yd
          · cases hk
        · cases hk
      · cases hk
    · rename_i hcal
      split at hk
      · rename_i y z hy
        split at hk
        · rename_i k u k' v hu hv
          split at hk
          · rename_i e; subst e; exact (y_min h hop hcal hy hu hv hk).yd
          · cases hk
        · cases hk
      · cases hk
    · cases hk
  · cases hk

end
end Go.Proofs.Ytckieogkaodkdaa.V
