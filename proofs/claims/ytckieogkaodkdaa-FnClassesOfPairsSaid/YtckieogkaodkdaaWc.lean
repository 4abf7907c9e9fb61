/- Each operation of the model does what the abstract one says: values. -/
import Derived.Test.YtckieogkaodkdaaWb
set_option linter.unusedVariables false
set_option linter.unusedSimpArgs false
namespace Go.Proofs.Ytckieogkaodkdaa.V
open Go Go.RowKit

/-- A type's zero, cell by cell. -/
def Z0 : AV → Value → Prop
  | .d (.int k) x, v => v = .int k x
  | .d .bool x, v => v = .bool x
  | .d .str x, v => v = .string x ∧ x.size = 0
  | .nilS _ _, v => v = .slice none 0 0
  | .undef, _ => True
  | _, _ => False
theorem Z0.rel {a : AV} {v : Value} (h : Z0 a v) (w : World) (ok : Nat → Prop) (m : Nat → ME) (g : GM) : R0 w ok m g a v := by
  cases a with
  | d e x =>
    cases e with
    | int k => simp only [Z0] at h; subst h; rfl
    | bool => simp only [Z0] at h; subst h; rfl
    | str => obtain ⟨rfl, h⟩ := h; exact ⟨rfl, by omega⟩
    | sl T e => exact h.elim
    | pr a b => exact h.elim
  | nilS T e => exact h
  | undef => trivial
  | _ => exact h.elim

def kindOK : TK → TypeDesc → Prop
  | .int k, u => u = .int k
  | .bool, u => u = .bool
  | .str, u => u = .string
  | .sl e, u => u = .slice e
  | .st l, u => ∃ fs, u = .struct fs ∧ (fs.toList.map fun f => (f.offset, f.type)) = l
  | .arr n e, u => u = .array n e
  | .other, u => (∀ fs, u ≠ .struct fs) ∧ ∀ n e, u ≠ .array n e
def ekOK (e : Option ET) (t : TK) : Prop := (∃ l, t = .st l) ∨ match e with
  | some (.int k) => t = .int k
  | some .bool => t = .bool
  | some .str => t = .str
  | some (.sl T _) => t = .sl T
  | _ => True
theorem ekOK.of {i : TI} {e : ET} (h : ekOK i.ek i.kind) (hk : (bif i.agg then none else i.ek) = some e) : i.ek = some e ∧ match some e with
  | some (.int k) => i.kind = .int k
  | some .bool => i.kind = .bool
  | some .str => i.kind = .str
  | some (.sl T _) => i.kind = .sl T
  | _ => True := by
  cases ha : i.agg with
  | true => rw [ha] at hk; cases hk
  | false =>
    rw [ha] at hk
    have hk : i.ek = some e := hk
    refine ⟨hk, ?_⟩
    rcases h with ⟨l, hl⟩ | h
    · simp [TI.agg, hl] at ha
    · rw [hk] at h; exact h

structure TyOK (P : Program) (t : Nat) (i : TI) : Prop where
  ex : ∃ inf u z, P.info? t = some inf ∧ P.underlying t = some u ∧ inf.zero = some z ∧ inf.size = i.sz ∧ inf.bytes = i.bytes ∧ (i.isArr = false → All2 Z0 i.zero z.cells.toList) ∧ kindOK i.kind u ∧
    (∀ n el, i.kind = .arr n el → n = i.sz ∧ ∃ inf' z0 vs, P.info? el = some inf' ∧ inf'.zero = some z0 ∧ z = .agg vs ∧ vs.toList = List.replicate i.sz z0 ∧ z0.cells.toList = [z0])
  ek : ekOK i.ek i.kind
  pos : 0 < i.bytes
  dz : ∀ e, i.ek = some e → i.isArr = false ∧ e.take i.zero = some (e.dflt, [])

section
variable {P : Program} {t : Nat} {i : TI} {w : World}
theorem run_program' : program.run P w = .ok P w := by simp [program, Sem.run]
theorem TyOK.size (h : TyOK P t i) : (sizeOf t).run P w = .ok i.sz w := by
  obtain ⟨inf, u, z, h1, h2, h3, h4, _⟩ := h.ex
  simp [sizeOf, typeInfo, run_program', h1, h4]
theorem TyOK.zeroV (h : TyOK P t i) : ∃ z, (∀ w, (zeroValue t).run P w = .ok z w) ∧ (i.isArr = false → All2 Z0 i.zero z.cells.toList) := by
  obtain ⟨inf, u, z, h1, h2, h3, h4, h5, h6, _⟩ := h.ex
  exact ⟨z, fun w => by simp [zeroValue, typeInfo, run_program', h1, h3], h6⟩
theorem TyOK.zeroA (h : TyOK P t i) {n el : Nat} (hk : i.kind = .arr n el) {j : TI} (he : TyOK P el j) : n = i.sz ∧ ∃ z0 vs, (∀ w, (zeroValue t).run P w = .ok (.agg vs) w) ∧ vs.toList = List.replicate i.sz z0 ∧ (∀ w, (zeroValue el).run P w = .ok z0 w) ∧ z0.cells.toList = [z0] := by
  obtain ⟨inf, u, z, h1, h2, h3, h4, h5, h6, h7, h8⟩ := h.ex
  obtain ⟨h9, inf', z0, vs, h10, h11, h12, h13, h14⟩ := h8 n el hk
  subst h12
  exact ⟨h9, z0, vs, fun w => by simp [zeroValue, typeInfo, run_program', h1, h3], h13, fun w => by simp [zeroValue, typeInfo, run_program', h10, h11], h14⟩
theorem TyOK.array (h : TyOK P t i) {n e : Nat} (hk : i.kind = .arr n e) : P.underlying t = some (.array n e) := by
  obtain ⟨inf, u, z, h1, h2, h3, h4, h5, h6, h7, _⟩ := h.ex
  rw [hk] at h7; simp only [kindOK] at h7; rw [h2, h7]
theorem isArr_iff {i : TI} : i.isArr = true ↔ ∃ n e, i.kind = .arr n e := by
  unfold TI.isArr
  cases i.kind <;> simp
theorem TyOK.isAgg (h : TyOK P t i) : (Go.isAgg t).run P w = .ok (i.agg || i.isArr) w := by
  obtain ⟨inf, u, z, h1, h2, h3, h4, h5, h6, h7, _⟩ := h.ex
  unfold TI.agg TI.isArr
  cases hk : i.kind <;> rw [hk] at h7 <;> simp only [kindOK] at h7
  all_goals first
    | (subst h7; simp [Go.isAgg, underlying, run_program', h2])
    | (obtain ⟨fs, rfl, _⟩ := h7; simp [Go.isAgg, underlying, run_program', h2])
    | (simp only [Go.isAgg, underlying, Sem.run_bind, run_program', Result.andThen_ok, h2]; cases u <;> simp_all)
theorem TyOK.slice (h : TyOK P t i) {e : Nat} (hk : i.kind = .sl e) : P.underlying t = some (.slice e) := by
  obtain ⟨inf, u, z, h1, h2, h3, h4, h5, h6, h7, _⟩ := h.ex
  rw [hk] at h7; simp only [kindOK] at h7; rw [h2, h7]
theorem TyOK.kinds (h : TyOK P t i) : ∃ u, P.underlying t = some u ∧ kindOK i.kind u := by
  obtain ⟨inf, u, z, h1, h2, h3, h4, h5, h6, h7, _⟩ := h.ex
  exact ⟨u, h2, h7⟩
theorem run_underlying {u : TypeDesc} (h : P.underlying t = some u) : (underlying t).run P w = .ok u w := by simp [underlying, run_program', h]
end

section
variable {w0 : World} {io : Nat → Prop} {n : Nat} {S : St} {g : GM} {a : Act} {w : World} {ok : Nat → Prop} {m : Nat → ME} {P : Program} {E : Env} {ρ : Type} {κ : AV → Option ρ} {r : ρ}

theorem R3.to2 {x : AV} {v : Value} (h : R3 w ok m g x v) (hx : ∀ l, x ≠ .tup l) : R2 w ok m g x v := by cases x <;> first | exact h | exact absurd rfl (hx _)
theorem R2.to1 {x : AV} {v : Value} (h : R2 w ok m g x v) (hx : ∀ l, x ≠ .agg l) : R1 w ok m g x v := by cases x <;> first | exact h | exact absurd rfl (hx _)
theorem R3.d {e : ET} {x : e.ty} {v : Value} (h : R3 w ok m g (.d e x) v) : Rd w ok e x [v] := h
theorem R3.int {k : IntKind} {x : Int} {v : Value} (h : R3 w ok m g (.d (.int k) x) v) : v = .int k x := by
  have : Rd w ok (.int k) x [v] := h
  simpa [Rd] using this
theorem R3.bool {x : Bool} {v : Value} (h : R3 w ok m g (.d .bool x) v) : v = .bool x := by
  have : Rd w ok .bool x [v] := h
  simpa [Rd] using this
theorem R3.str {x : ByteArray} {v : Value} (h : R3 w ok m g (.d .str x) v) : v = .string x ∧ x.size ≤ maxLen := by
  have : Rd w ok .str x [v] := h
  simpa [Rd] using this

theorem const_ok (ty : Nat) (v : Value) : R3 w ok m g (constAV E ty v) v := by
  unfold constAV
  split
  · exact rfl
  · exact rfl
  · rename_i s
    cases hb : Nat.ble s.size 1000000 with
    | true => exact ⟨rfl, by have := Nat.le_of_ble_eq_true hb; unfold maxLen; omega⟩
    | false => trivial
  · exact rfl
  · split
    · exact rfl
    · trivial
  · trivial

theorem ev_ok (h : SR w0 io E.ntmps S g a w) (ty : Nat) (x : Operand) : R3 w (okOf w S.m g) S.m g (S.ev E ty x) (a.eval x) := by
  cases x with
  | tmp t =>
    simp only [St.ev]
    cases hb : Nat.blt t E.ntmps with
    | false => trivial
    | true =>
      have hlt : t < a.tmps.size := by rw [h.n]; exact Nat.le_of_ble_eq_true hb
      have := h.tmps t (a.tmps.getD t undef) (by simp [Array.getD, hlt])
      exact this
  | const v => exact const_ok ty v
  | global gl => trivial
  | func f => exact ⟨#[], rfl, .nil⟩

/-- An operation yields a value; nothing that was there is turned. -/
def Yields (P : Program) (S : St) (g : GM) (a : Act) (w : World) (o : Oper) (κ : AV → Option ρ) (r : ρ) : Prop :=
  ∃ x V w', κ x = some r ∧ More w w' ∧ R3 w' (okOf w' S.m g) S.m g x V ∧ (execOp a.eval o).run P w = .ok (.value V) w'

theorem cond_some {b : Bool} {x y : Option ρ} (h : (bif b then x else y) = some r) : (b = true ∧ x = some r) ∨ (b = false ∧ y = some r) := by cases b <;> simp_all

/-! ### arithmetic -/
theorem intK_ok {op : BinOp} {k : IntKind} {x y : Int} (hs : isShift op = false) (h : intK op k x y κ = some r) : ∃ z V, κ z = some r ∧ (∀ w ok m g, R3 w ok m g z V) ∧ ∀ P w, (binOp op 0 (.int k x) (.int k y)).run P w = .ok V w := by
  cases op <;> simp only [isShift, Bool.true_eq_false] at hs <;> simp only [intK] at h
  all_goals first
    | exact ⟨_, _, h, fun _ _ _ _ => rfl, fun P w => by simp [binOp, Op.intArith, Op.intCmp, Op.intBits]⟩
    | (rcases cond_some h with ⟨hb, h⟩ | ⟨hb, h⟩ <;> first | (simp at h; done) | exact ⟨_, _, h, fun _ _ _ _ => rfl, fun P w => by simp [binOp, Op.intDiv, of_decide_eq_false hb]⟩)
    | (simp at h; done)
theorem shiftK_ok {op : BinOp} {k k' : IntKind} {x y : Int} (h : shiftK op k x y κ = some r) : ∃ z V, κ z = some r ∧ (∀ w ok m g, R3 w ok m g z V) ∧ ∀ P w, (binOp op 0 (.int k x) (.int k' y)).run P w = .ok V w := by
  cases op <;> simp only [shiftK] at h
  all_goals first
    | (rcases cond_some h with ⟨hb, h⟩ | ⟨hb, h⟩ <;> first | (simp at h; done) | exact ⟨_, _, h, fun _ _ _ _ => rfl, fun P w => by simp [binOp, Op.shift, of_decide_eq_false hb]⟩)
    | (simp at h; done)
theorem strK_ok {op : BinOp} {x y : ByteArray} (h : strK op x y κ = some r) : ∃ z V, κ z = some r ∧ (∀ w ok m g, R3 w ok m g z V) ∧ ∀ P w, (binOp op 0 (.string x) (.string y)).run P w = .ok V w := by
  cases op <;> simp only [strK] at h
  case add =>
    rcases cond_some h with ⟨hb, h⟩ | ⟨hb, h⟩
    · have hle := Nat.le_of_ble_eq_true hb
      refine ⟨_, _, h, fun _ _ _ _ => ⟨rfl, by simpa using hle⟩, fun P w => ?_⟩
      have : ¬ (((x.size + y.size : Nat) : Int) > IntKind.i64.max) := by
        have : IntKind.i64.max = 9223372036854775807 := rfl
        unfold maxLen at hle; omega
      simp only [binOp, Op.stringOp, this, if_false, Sem.run_pure]
    · simp at h
  all_goals first
    | exact ⟨_, _, h, fun _ _ _ _ => rfl, fun P w => by simp [binOp, Op.stringOp]⟩
    | (simp at h; done)

theorem equal_bool {P : Program} {T : Nat} (h : P.underlying T = some .bool) (x y : Bool) (w : World) : (Op.equal T (.bool x) (.bool y)).run P w = .ok (x == y) w := by
  have : ∀ d, (Op.equalIn (d + 1) T (.bool x) (.bool y)).run P w = .ok (x == y) w := fun d => by
    unfold Op.equalIn
    simp only [Sem.run_bind, run_underlying h, Result.andThen_ok, Sem.run_pure]
  exact this 9999
theorem y_binOp {op : BinOp} {T T' : Nat} {x y : Operand} (h : SR w0 io E.ntmps S g a w) (hty : TyOK P T (E.ty T)) {o : Oper} (ho : o.op = .binOp op T x y T')
    (hk : binK op (E.ty T).kind (S.ev E T x) (S.ev E T' y) κ = some r) : Yields P S g a w o κ r := by
  have hX := ev_ok h T x
  have hY := ev_ok h T' y
  have hrun : ∀ V, (do eqGuard op T x y (a.eval x) (a.eval y); binOp op T (a.eval x) (a.eval y)).run P w = .ok V w → (execOp a.eval o).run P w = .ok (.value V) w := by
    intro V hV
    simp only [execOp, ho]
    simp only [Sem.run_bind] at hV ⊢
    rw [hV]; rfl
  generalize S.ev E T x = X at *
  generalize S.ev E T' y = Y at *
  unfold binK at hk
  split at hk
  · rename_i k u k' v
    rw [hX.int, hY.int] at hrun
    have hgd : (eqGuard op T x y (.int k u) (.int k' v)).run P w = .ok () w := by simp [eqGuard]
    rcases cond_some hk with ⟨hs, hk⟩ | ⟨hs, hk⟩
    · obtain ⟨z, V, h1, h2, h3⟩ := shiftK_ok (k' := k') hk
      refine ⟨z, V, w, h1, More.refl w, h2 _ _ _ _, hrun V ?_⟩
      have h3 := h3 P w
      simp only [Sem.run_bind, hgd, Result.andThen_ok]
      cases op <;> simp only [isShift, Bool.false_eq_true] at hs <;> exact h3
    · split at hk
      · rename_i e
        subst e
        obtain ⟨z, V, h1, h2, h3⟩ := intK_ok hs hk
        refine ⟨z, V, w, h1, More.refl w, h2 _ _ _ _, hrun V ?_⟩
        have h3 := h3 P w
        simp only [Sem.run_bind, hgd, Result.andThen_ok]
        cases op <;> simp only [isShift, Bool.true_eq_false] at hs <;> exact h3
      · simp at hk
  · rename_i u v
    rw [hX.str.1, hY.str.1] at hrun
    have hgd : (eqGuard op T x y (.string u) (.string v)).run P w = .ok () w := by simp [eqGuard]
    obtain ⟨z, V, h1, h2, h3⟩ := strK_ok hk
    refine ⟨z, V, w, h1, More.refl w, h2 _ _ _ _, hrun V ?_⟩
    have h3 := h3 P w
    simp only [Sem.run_bind, hgd, Result.andThen_ok]
    cases op <;> exact h3
  · rename_i u v
    rw [hX.bool, hY.bool] at hrun
    have hgd : (eqGuard op T x y (.bool u) (.bool v)).run P w = .ok () w := by simp [eqGuard]
    split at hk
    · rename_i hkind
      obtain ⟨uu, h1, h2⟩ := hty.kinds
      rw [hkind] at h2; simp only [kindOK] at h2; subst h2
      refine ⟨_, .bool (u == v), w, hk, More.refl w, rfl, hrun _ ?_⟩
      simp only [Sem.run_bind, hgd, Result.andThen_ok, binOp, equal_bool h1, Sem.run_pure]
    · rename_i hkind
      obtain ⟨uu, h1, h2⟩ := hty.kinds
      rw [hkind] at h2; simp only [kindOK] at h2; subst h2
      refine ⟨_, .bool (!(u == v)), w, hk, More.refl w, rfl, hrun _ ?_⟩
      simp only [Sem.run_bind, hgd, Result.andThen_ok, binOp, equal_bool h1, Sem.run_pure]
    · simp at hk
  · simp at hk
theorem y_unOp {op : UnOp} {T : Nat} {x : Operand} (h : SR w0 io E.ntmps S g a w) {o : Oper} (ho : o.op = .unOp op T x)
    (hk : unK op (S.ev E T x) κ = some r) : Yields P S g a w o κ r := by
  have hX := ev_ok h T x
  generalize S.ev E T x = X at *
  unfold unK at hk
  split at hk
  · rename_i k u
    refine ⟨_, .int k (k.wrap (0 - u)), w, hk, More.refl w, rfl, ?_⟩
    simp [execOp, ho, hX.int, Op.unary, Op.intArith]
  · rename_i b
    refine ⟨_, .bool (!b), w, hk, More.refl w, rfl, ?_⟩
    simp [execOp, ho, hX.bool, Op.unary]
  · simp at hk
theorem y_move {x : Operand} (h : SR w0 io E.ntmps S g a w) {o : Oper} {ty : Nat} (ho : o.op = .move x ∨ o.op = .assign x) (hk : κ (S.ev E ty x) = some r) : Yields P S g a w o κ r := by
  refine ⟨_, a.eval x, w, hk, More.refl w, ev_ok h ty x, ?_⟩
  rcases ho with ho | ho <;> simp [execOp, ho]
theorem pickK_ok {c : Bool} {A B : AV} {VA VB : Value} (hA : R3 w ok m g A VA) (hB : R3 w ok m g B VB) (h : pickK c A B κ = some r) : ∃ z, κ z = some r ∧ R3 w ok m g z (if c then VA else VB) := by
  unfold pickK at h
  split at h
  · rename_i e x e' y
    split at h
    · rename_i he
      subst he
      refine ⟨_, h, ?_⟩
      cases c
      · exact hB
      · exact hA
    · cases c
      · exact ⟨_, h, hB⟩
      · exact ⟨_, h, hA⟩
  · cases c
    · exact ⟨_, h, hB⟩
    · exact ⟨_, h, hA⟩
theorem y_pick {c x y : Operand} (h : SR w0 io E.ntmps S g a w) {o : Oper} (ho : o.op = .pick c x y) {t : Bool} (hc : S.ev E 0 c = .d .bool t) (hk : pickK t (S.ev E o.type x) (S.ev E o.type y) κ = some r) : Yields P S g a w o κ r := by
  have hC := ev_ok h 0 c
  rw [hc] at hC
  obtain ⟨z, h1, h2⟩ := pickK_ok (ev_ok h o.type x) (ev_ok h o.type y) hk
  refine ⟨z, _, w, h1, More.refl w, h2, ?_⟩
  simp only [execOp, ho, hC.bool, asBool, Sem.run_bind, Sem.run_pure, Result.andThen_ok]
theorem y_extract {x : Operand} {j : Nat} (h : SR w0 io E.ntmps S g a w) {o : Oper} (ho : o.op = .extract x j) {l : List AV} (hx : S.ev E 0 x = .tup l) {v : AV} (hj : l[j]? = some v) (hk : κ v = some r) : Yields P S g a w o κ r := by
  have hX := ev_ok h 0 x
  rw [hx] at hX
  obtain ⟨vs, h1, h2⟩ := hX
  obtain ⟨u, hu, hr⟩ := h2.get j v hj
  refine ⟨v, u, w, hk, More.refl w, .of2 hr, ?_⟩
  have hu' : vs[j]? = some u := by simpa using hu
  simp [execOp, ho, h1, Instr.extract, hu']
theorem y_nilCheck {x : Operand} (h : SR w0 io E.ntmps S g a w) {o : Oper} (ho : o.op = .nilCheck x) {v : AV} (hv : S.ev E 0 x = v) (hs : (∃ id off, v = .ptr id off) ∨ (∃ l, v = .iptr l) ∨ ∃ id q i, v = .eptr id q i) (hk : κ v = some r) : Yields P S g a w o κ r := by
  have hX := ev_ok h 0 x
  rw [hv] at hX
  have : ∃ ad, a.eval x = .pointer (some ad) := by
    rcases hs with ⟨id, off, rfl⟩ | ⟨l, rfl⟩ | ⟨id, q, i, rfl⟩
    · exact ⟨_, hX.1⟩
    · obtain ⟨ad, _, h1, _⟩ := hX; exact ⟨ad, h1⟩
    · rcases hX with ⟨_, _, _, _, _, _, _, h1⟩ | ⟨_, _, h1⟩ <;> exact ⟨_, h1⟩
  obtain ⟨ad, hp⟩ := this
  refine ⟨v, a.eval x, w, hk, More.refl w, hX, ?_⟩
  simp [execOp, ho, hp]
theorem y_makeFunc {f : Nat} {first caps : Array Operand} (h : SR w0 io E.ntmps S g a w) {o : Oper} (ho : o.op = .makeFunc (.func f) first caps) (hf : first.toList.length = 0)
    (hc0 : (caps.toList.map (S.ev E 0)).all AV.isCap = true) (hk : κ (.fn f (caps.toList.map (S.ev E 0))) = some r) : Yields P S g a w o κ r := by
  have hfirst : first = #[] := by simpa using hf
  have hc : ∀ c ∈ caps.toList, (∃ id off, S.ev E 0 c = .ptr id off) ∨ ∃ l, S.ev E 0 c = .iptr l := by
    intro c hc
    have := (List.all_eq_true.1 hc0) (S.ev E 0 c) (List.mem_map.2 ⟨c, hc, rfl⟩)
    generalize S.ev E 0 c = X at *
    cases X <;> simp only [AV.isCap, Bool.false_eq_true] at this
    · exact .inl ⟨_, _, rfl⟩
    · exact .inr ⟨_, rfl⟩
  refine ⟨_, .func (.func f) #[] (caps.map a.eval), w, hk, More.refl w, ?_, ?_⟩
  · refine ⟨caps.map a.eval, rfl, ?_⟩
    have : ∀ l : List Operand, (∀ c ∈ l, (∃ id off, S.ev E 0 c = .ptr id off) ∨ ∃ l, S.ev E 0 c = .iptr l) → All2 (RC w (okOf w S.m g) S.m g) (l.map (S.ev E 0)) (l.map a.eval) := by
      intro l
      induction l with
      | nil => intro _; exact .nil
      | cons c l ih =>
        intro hc
        refine .cons ?_ (ih fun c hc' => hc c (List.mem_cons_of_mem _ hc'))
        have hX := ev_ok h 0 c
        rcases hc c (List.mem_cons_self ..) with ⟨id, off, e⟩ | ⟨l, e⟩ <;> (rw [e] at hX ⊢; exact ⟨rfl, hX⟩)
    simpa using this caps.toList hc
  · simp [execOp, ho, Instr.makeFunc, hfirst]

/-! ### memory read -/
theorem add_none (b i j : Nat) : (⟨b, i, none⟩ : Addr).add j = ⟨b, i + j, none⟩ := by
  unfold Addr.add; split
  · rename_i h; subst h; rfl
  · rfl
theorem RA.to1 {x : AV} {v : Value} (h : RA w ok x v) : R1 w ok m g x v := by cases x <;> simp only [RA] at h <;> exact h
/-- Cells that lie at an address, read as a variable of type T. -/
theorem loadCells_ok {T : Nat} {i : TI} (hty : TyOK P T i) {l : List AV} {vs : List Value} {ad : Addr} (hl : All2 (R1 w ok m g) l vs) (hc : ∀ j u, vs[j]? = some u → w.cell? (ad.add j) = some u) (h : loadCells i l κ = some r) :
    ∃ z V, κ z = some r ∧ R3 w ok m g z V ∧ (loadVar T ad).run P w = .ok V w := by
  unfold loadCells at h
  rcases cond_some h with ⟨_, h⟩ | ⟨hna, h⟩
  · cases h
  rcases cond_some h with ⟨hb, h⟩ | ⟨hb, h⟩
  · rcases cond_some h with ⟨hb2, h⟩ | ⟨hb2, h⟩
    · have hle := Nat.le_of_ble_eq_true hb2
      refine ⟨_, .agg (vs.take i.sz).toArray, h, ⟨(vs.take i.sz).toArray, rfl, by simpa using hl.take i.sz⟩, ?_⟩
      have hlen : (vs.take i.sz).length = i.sz := by rw [List.length_take, ← hl.length]; omega
      have := run_loadCells_list (P := P) (w := w) ad (vs.take i.sz) (fun j v hj => hc j v (by
        rw [List.getElem?_take] at hj; split at hj
        · exact hj
        · cases hj))
      rw [hlen] at this
      simp only [loadVar, Sem.run_bind, hty.isAgg, hb, Bool.true_or, Result.andThen_ok, if_true, hty.size, this, Sem.run_pure]
    · simp at h
  · split at h
    · rename_i v l'
      cases hl with
      | cons h1 h2 =>
        rename_i u us
        refine ⟨_, u, h, .of1 h1, ?_⟩
        have hcell := hc 0 u rfl
        simp only [loadVar, Sem.run_bind, hty.isAgg, hb, hna, Bool.or_false, Result.andThen_ok, Bool.false_eq_true, if_false]
        have h0 : ad.add 0 = ad := rfl
        rw [h0] at hcell
        simp [hcell]
    · simp at h
theorem All2.flip_get {α β : Type} {R : α → β → Prop} {l : List α} {l' : List β} (h : All2 R l l') : True := trivial
theorem elem_one {d : Nat} {e : ET} {x : e.ty} {t : Tr} {v : Value} (h : Own w ok d e x t v) : e.sz = 1 := by
  have leaf : Rd w ok e x [v] → e.sz = 1 := fun h => h.len.symm
  cases d with
  | zero => exact leaf ((Own.leaf (.inl rfl)).1 h).2
  | succ d => cases e with
    | sl T e => rfl
    | _ => exact leaf h.2
theorem Own.slice {d T : Nat} {e : ET} {xs : List e.ty} {t : Tr} {v : Value} (h : Own w ok (d + 1) (.sl T e) xs t v) : ∃ A c kids, v = .slice A xs.length c ∧ t = .nd v xs.length kids := by
  obtain ⟨n, kids, cs, rfl, h1, h2, _⟩ := h
  rcases h2.2 with ⟨h3, h4⟩ | ⟨b, cap, cur, h3, _⟩
  · exact ⟨none, 0, kids, by rw [h3, h1, h4], by rw [h1]⟩
  · exact ⟨_, cap, kids, by rw [h1]; exact h3, by rw [h1]⟩
/-- A slice's element: what lies there. -/
theorem Own.elem {d T : Nat} {e : ET} {xs : List e.ty} {v : Value} {n : Nat} {kids : Nat → Tr} (h : Own w ok (d + 1) (.sl T e) xs (.nd v n kids) v) {i : Nat} (hi : i < n) :
    xs.length = n ∧ ∃ c, Own w ok d e (xs.getD i e.dflt) (kids i) c ∧ (∀ b n' c', v = .slice (some ⟨b, 0, none⟩) n' c' → w.cell? ⟨b, i, none⟩ = some c) := by
  obtain ⟨n1, kids1, cs, ht, h1, h2, h3, _⟩ := h
  injection ht with _ ht1 ht2
  subst ht1; subst ht2
  have hlen : cs.length = n := by have := h2.1; simpa using this
  have hxi : xs[i]? = some (xs.getD i e.dflt) := by simp [List.getD, show i < xs.length by omega]
  have hci : cs[i]? = some cs[i] := List.getElem?_eq_getElem (by omega)
  refine ⟨h1, cs[i], h3 i _ _ hxi hci, fun b n' c' hv => ?_⟩
  have := h2.cells (g := b) (by rw [hv]; rfl) i _ hci
  rwa [add_none0, Nat.zero_add] at this
theorem load_run {T : Nat} {x : Operand} (h : SR w0 io E.ntmps S g a w) (hty : TyOK P T (E.ty T)) (hk : loadK E S.m T (S.ev E 0 x) κ = some r) : ∃ z V ad, κ z = some r ∧ R3 w (okOf w S.m g) S.m g z V ∧ a.eval x = .pointer (some ad) ∧ (loadVar T ad).run P w = .ok V w := by
  have hX := ev_ok h 0 x
  generalize S.ev E 0 x = X at *
  have one : ∀ {ad : Addr} {y : AV} {cv : Value}, a.eval x = .pointer (some ad) → R1 w (okOf w S.m g) S.m g y cv → w.cell? ad = some cv → loadCells (E.ty T) [y] κ = some r → ∃ z V ad, κ z = some r ∧ R3 w (okOf w S.m g) S.m g z V ∧ a.eval x = .pointer (some ad) ∧ (loadVar T ad).run P w = .ok V w := by
    intro ad y cv h1 h2 h3 h4
    obtain ⟨z, V, hz, hr', hv⟩ := loadCells_ok hty (ad := ad) (All2.cons h2 .nil) (fun j u hj => by
      match j, hj with
      | 0, hj => simp at hj; subst hj; exact h3) h4
    exact ⟨z, V, _, hz, hr', h1, hv⟩
  unfold loadK at hk
  split at hk
  · rename_i id off
    obtain ⟨h1, _⟩ := hX
    split at hk
    · rename_i l hm
      have hM := h.mem id
      rw [hm] at hM
      obtain ⟨vs, T', hh, hl⟩ := hM
      obtain ⟨z, V, hz, hr, hv⟩ := loadCells_ok hty (ad := ⟨(g id).blk, off, none⟩) (hl.drop off) (fun j u hj => by
        rw [add_none]
        simp only [World.cell?, hh, Option.isSome_none, Bool.false_eq_true, if_false]
        rw [List.getElem?_drop] at hj
        simpa using hj) hk
      exact ⟨z, V, _, hz, hr, h1, hv⟩
    · rename_i e n xs hm
      rcases cond_some hk with ⟨hb, hk2⟩ | ⟨_, hk2⟩
      · simp only [Bool.and_eq_true] at hb
        obtain ⟨⟨hb1, hb2⟩, hb3⟩ := hb
        have hb2 := Nat.eq_of_beq_eq_true hb2
        have hb3 := Nat.eq_of_beq_eq_true hb3
        subst hb2
        have hM := h.mem id
        rw [hm] at hM
        obtain ⟨hn, vs, T', hh, hl⟩ := hM
        refine ⟨.arr e n xs, .agg vs, _, hk2, ⟨vs, rfl, hn, hl⟩, h1, ?_⟩
        have hlen : vs.toList.length = (E.ty T).sz := by rw [← hl.length, hn, hb3]
        have := run_loadCells_list (P := P) (w := w) ⟨(g id).blk, 0, none⟩ vs.toList (fun j v hj => by
          rw [add_none]
          simp only [World.cell?, hh, Option.isSome_none, Bool.false_eq_true, if_false]
          simpa using hj)
        rw [hlen] at this
        simp only [loadVar, Sem.run_bind, hty.isAgg, hb1, Bool.or_true, Result.andThen_ok, if_true, hty.size, this, Sem.run_pure]
      · cases hk2
    · cases hk
  · rename_i l
    obtain ⟨ad, vs, h1, h2, h3, h4⟩ := hX
    obtain ⟨z, V, hz, hr, hv⟩ := loadCells_ok hty (m := S.m) (g := g) (ad := ad) (h3.mono fun _ _ => RA.to1) h4 hk
    exact ⟨z, V, _, hz, hr, h1, hv⟩
  · rename_i id q i
    split at hk
    · rename_i e n xs hm
      split at hk
      · rcases hX with ⟨⟨_, _, _, _, h1⟩, _⟩ | ⟨_, ⟨e2, n2, xs2, h1, hi⟩, hv⟩
        · rw [hm] at h1; cases h1
        · rw [hm] at h1; cases h1
          have hM := h.mem id
          rw [hm] at hM
          obtain ⟨hn, vs, T', hh, hl⟩ := hM
          obtain ⟨cv, hcv, hr⟩ := hl.get i (xs.getD i e.dflt) (by simp [List.getD, show i < xs.length by omega])
          exact one hv (R1.of0 (x := .d e (xs.getD i e.dflt)) hr) (by simp only [World.cell?, hh, Option.isSome_none, Bool.false_eq_true, if_false]; simpa using hcv) hk
      · cases hk
    · rename_i T0 e dp xs hm
      split at hk
      · rename_i T' e' ys hp
        rcases hX with ⟨_, b, c, n, kids, hg, hi, hv⟩ | ⟨_, ⟨_, _, _, h1, _⟩, _⟩
        · have hM := h.mem id
          rw [hm] at hM
          obtain ⟨T2, e2, ys2, h2, h3, h4⟩ := Own.get q hM hg
          rw [hp] at h2
          injection h2 with h2
          cases h2
          have hd : dp + 1 - q.length = (dp - q.length) + 1 := by omega
          rw [hd] at h4
          obtain ⟨_, cv, h5, h6⟩ := h4.elem hi
          refine one hv (R1.of0 ?_) (h6 b n c rfl) hk
          unfold elemV
          cases hb : Nat.blt q.length dp && e'.isSl with
          | true =>
            simp only [Bool.and_eq_true] at hb
            obtain ⟨hb1, hb2⟩ := hb
            have hb1 : q.length < dp := Nat.le_of_ble_eq_true hb1
            cases e' with
            | sl T3 e3 =>
              have hd : dp - q.length = (dp - q.length - 1) + 1 := by omega
              rw [hd] at h5
              obtain ⟨A, c3, kids3, h7, h8⟩ := h5.slice
              refine ⟨⟨T0, e, dp, xs, hm⟩, List.length (List.getD ys i (ET.sl T3 e3).dflt), kids3, ?_⟩
              rw [Tr.get_append, hg]
              simp only [Option.bind_some, Tr.get, if_pos hi, h8]
            | _ => cases hb2
          | false =>
            have : Own w (okOf w S.m g) (dp - q.length) e' (ys.getD i e'.dflt) .lf cv ∨ True := .inr trivial
            have hl : dp - q.length = 0 ∨ e'.isSl = false := by
              cases h9 : e'.isSl with
              | false => exact .inr rfl
              | true =>
                rw [h9, Bool.and_true] at hb
                refine .inl ?_
                have : ¬ q.length < dp := fun hlt => by rw [show Nat.blt q.length dp = true from Nat.ble_eq_true_of_le hlt] at hb; cases hb
                omega
            exact ((Own.leaf hl).1 h5).2
        · rw [hm] at h1; cases h1
      · cases hk
    · cases hk
  · cases hk

theorem y_load {T : Nat} {x : Operand} (h : SR w0 io E.ntmps S g a w) (hty : TyOK P T (E.ty T)) {o : Oper} (ho : o.op = .load T x) (hk : loadK E S.m T (S.ev E 0 x) κ = some r) : Yields P S g a w o κ r := by
  obtain ⟨z, V, ad, h1, h2, h3, h4⟩ := load_run h hty hk
  exact ⟨z, V, w, h1, More.refl w, h2, by simp [execOp, ho, Instr.loadAt, Instr.sureAddr, h3, h4]⟩

theorem TyOK.flds {t : Nat} {i : TI} (hty : TyOK P t i) {f : Nat} {p : Nat × Nat} (hf : i.flds[f]? = some p) : ∃ fs fd, P.underlying t = some (.struct fs) ∧ fs[f]? = some fd ∧ fd.offset = p.1 ∧ fd.type = p.2 := by
  obtain ⟨u, h1, h2⟩ := hty.kinds
  unfold TI.flds at hf
  cases hk : i.kind <;> rw [hk] at hf h2 <;> simp only [List.getElem?_nil] at hf <;> try (cases hf)
  obtain ⟨fs, rfl, h3⟩ := h2
  rw [← h3] at hf
  simp only [List.getElem?_map, Array.getElem?_toList, Option.map_eq_some_iff] at hf
  obtain ⟨fd, h4, h5⟩ := hf
  exact ⟨fs, fd, h1, h4, by rw [← h5], by rw [← h5]⟩
theorem y_fieldAddr {T f : Nat} {x : Operand} (h : SR w0 io E.ntmps S g a w) (hty : TyOK P T (E.ty T)) (hf : ∀ p, (E.ty T).flds[f]? = some p → TyOK P p.2 (E.ty p.2) ∧ 0 < (E.ty p.2).sz) {o : Oper} (ho : o.op = .fieldAddr T x f)
    (hk : fieldAddrK E T f (S.ev E 0 x) κ = some r) : Yields P S g a w o κ r := by
  have hX := ev_ok h 0 x
  unfold fieldAddrK at hk
  split at hk
  · rename_i off ft hfl
    obtain ⟨fs, fd, h1, h2, h3, h4⟩ := hty.flds hfl
    obtain ⟨hft, hpos⟩ := hf _ hfl
    have hrun : ∀ ad, a.eval x = .pointer (some ad) → (execOp a.eval o).run P w = .ok (.value (.pointer (some (ad.add off)))) w := by
      intro ad had
      have hsz : (sizeOf fd.type).run P w = .ok (E.ty ft).sz w := by rw [h4]; exact hft.size
      have hne : ¬ ((E.ty ft).sz = 0) := by simp only at hpos; omega
      simp [execOp, ho, Instr.fieldAt, run_underlying h1, h2, Instr.sureAddr, had, fieldPlace, hsz, hne, h3]
    generalize S.ev E 0 x = X at *
    split at hk
    · rename_i id o1
      obtain ⟨h5, h6⟩ := hX
      refine ⟨_, _, w, hk, More.refl w, ⟨?_, h6⟩, hrun _ h5⟩
      rw [add_none]
    · rename_i l
      obtain ⟨ad, vs, h5, h6, h7, h8⟩ := hX
      refine ⟨_, _, w, hk, More.refl w, ⟨ad.add off, vs.drop off, rfl, by rw [add_block]; exact h6, h7.drop off, fun j u hj => ?_⟩, hrun _ h5⟩
      rw [List.getElem?_drop] at hj
      have := h8 _ u hj
      have e : (ad.add off).add j = ad.add (off + j) := by
        unfold Addr.add
        by_cases h0 : off = 0
        · subst h0; simp
        · by_cases h9 : j = 0
          · subst h9; simp [h0]
          · simp [h0, h9, Nat.add_assoc, show ¬ (off + j = 0) by omega]
      rw [e]; exact this
    · rename_i id q i
      rcases cond_some hk with ⟨hb, hk⟩ | ⟨_, hk⟩
      · have hb := Nat.eq_of_beq_eq_true hb
        subst hb
        have hp : ∃ ad, a.eval x = .pointer (some ad) := by rcases hX with ⟨_, _, _, _, _, _, _, h1⟩ | ⟨_, _, h1⟩ <;> exact ⟨_, h1⟩
        obtain ⟨ad, hp⟩ := hp
        have h0 : ad.add 0 = ad := rfl
        refine ⟨_, a.eval x, w, hk, More.refl w, hX, ?_⟩
        rw [hrun _ hp, h0, hp]
      · cases hk
    · simp at hk
  · simp at hk
theorem y_field {T f : Nat} {x : Operand} (h : SR w0 io E.ntmps S g a w) (hty : TyOK P T (E.ty T)) {o : Oper} (ho : o.op = .field T x f) {l : List AV} (hl : S.ev E T x = .agg l) {off t : Nat} (hf : (E.ty T).flds[f]? = some (off, t)) (hft : TyOK P t (E.ty t))
    (hk : loadCells (E.ty t) (l.drop off) κ = some r) : Yields P S g a w o κ r := by
  have hX := ev_ok h T x
  rw [hl] at hX
  obtain ⟨vs, h5, h6⟩ := hX
  obtain ⟨fs, fd, h1, h2, h3, h4⟩ := hty.flds hf
  have hpart : ∃ z V, κ z = some r ∧ R3 w (okOf w S.m g) S.m g z V ∧ (part fd.type vs fd.offset).run P w = .ok V w := by
    simp only at h3 h4
    rw [h3, h4]
    have hd := h6.drop off
    unfold loadCells at hk
    rcases cond_some hk with ⟨_, hk⟩ | ⟨hna, hk⟩
    · cases hk
    rcases cond_some hk with ⟨hb, hk⟩ | ⟨hb, hk⟩
    · rcases cond_some hk with ⟨hb2, hk⟩ | ⟨hb2, hk⟩
      · refine ⟨_, .agg (vs.extract off (off + (E.ty t).sz)), hk, ⟨_, rfl, ?_⟩, ?_⟩
        · have := hd.take (E.ty t).sz
          rw [Array.toList_extract]
          simpa [List.extract_eq_take_drop] using this
        · simp [part, hft.isAgg, hb, hft.size]
      · simp at hk
    · split at hk
      · rename_i v l' he
        rw [he] at hd
        have hlen := h6.length
        have h0 : vs.toList.drop off ≠ [] := fun e => by rw [e] at hd; cases hd
        cases hv : vs.toList.drop off with
        | nil => exact absurd hv h0
        | cons u us =>
          rw [hv] at hd
          cases hd with
          | cons h7 h8 =>
            have hu : vs[off]? = some u := by
              have : (vs.toList.drop off)[0]? = some u := by rw [hv]; rfl
              rw [List.getElem?_drop] at this
              simpa using this
            exact ⟨_, u, hk, .of1 h7, by simp [part, hft.isAgg, hb, hna, hu]⟩
      · simp at hk
  obtain ⟨z, V, h7, h8, h9⟩ := hpart
  refine ⟨z, V, w, h7, More.refl w, h8, ?_⟩
  simp [execOp, ho, Instr.field, run_underlying h1, h2, asAgg, h5, h9]
theorem boundK_some {i : Int} {n : Nat} {A : Option ρ} (h : boundK i n A = some r) : 0 ≤ i ∧ i < n ∧ A = some r := by
  unfold boundK at h
  rcases cond_some h with ⟨h1, h⟩ | ⟨_, h⟩
  · rcases cond_some h with ⟨h2, h⟩ | ⟨_, h⟩
    · exact ⟨of_decide_eq_true h1, of_decide_eq_true h2, h⟩
    · simp at h
  · simp at h
/-- Data's cells. -/
theorem cells_ok : ∀ {e : ET} {x : e.ty} {vs : List Value}, Rd w ok e x vs → All2 (RA w ok) (e.cells x) vs := by
  intro e
  induction e with
  | int k => intro x vs h; simp only [Rd] at h; subst h; exact .cons rfl .nil
  | bool => intro x vs h; simp only [Rd] at h; subst h; exact .cons rfl .nil
  | str => intro x vs h; have h' := h; simp only [Rd] at h; obtain ⟨h1, h2⟩ := h; subst h1; exact .cons h' .nil
  | sl T e ih => intro x vs h; have h' := h; obtain ⟨A, n, c, h1, _⟩ := h; subst h1; exact .cons h' .nil
  | pr a b iha ihb => rintro x vs ⟨c1, c2, h1, h2, h3⟩; subst h1; exact (iha h2).append (ihb h3)
theorem own_form {T n : Nat} {v : Value} {cs : List Value} (h : w.ownsRow 0 T 1 v n cs) (hn : 0 < n) : ∃ b cap, v = .slice (some ⟨b, 0, none⟩) n cap := by
  rcases h.2 with ⟨_, h0⟩ | ⟨b, cap, cur, h1, _⟩
  · omega
  · exact ⟨b, cap, h1⟩
theorem y_indexAddr {T : Nat} {x i : Operand} (h : SR w0 io E.ntmps S g a w) (hty : TyOK P T (E.ty T)) (hel : TyOK P (E.ty T).elem (E.ty (E.ty T).elem)) {o : Oper} (ho : o.op = .indexAddr T x i)
    (hsz : match nrm (S.ev E T x) with
      | .d (.sl _ e) _ => (∃ e, (E.ty T).kind = .sl e) ∧ e.sz = (E.ty (E.ty T).elem).sz
      | .ptr _ _ => (∃ n e, (E.ty T).kind = .arr n e) ∧ (E.ty (E.ty T).elem).sz = 1
      | _ => (∃ e, (E.ty T).kind = .sl e) ∧ (E.ty (E.ty T).elem).sz = 1)
    (hk : indexAddrK E S.m T (nrm (S.ev E T x)) (S.ev E 0 i) κ = some r) : Yields P S g a w o κ r := by
  have hX := R3.nrm (ev_ok h T x)
  have hI := ev_ok h 0 i
  have hT : ∀ {e : Nat}, (E.ty T).kind = .sl e → P.underlying T = some (.slice (E.ty T).elem) := fun hkd => by have := hty.slice hkd; simp only [TI.elem, hkd]; exact this
  generalize nrm (S.ev E T x) = X at *
  unfold indexAddrK at hk
  split at hk
  · rename_i k nn hi
    rw [hi] at hI
    split at hk
    · rename_i T' e xs
      obtain ⟨⟨el, hkd⟩, hsz⟩ := hsz
      have hT := hT hkd
      obtain ⟨A, len, c, h1, h2, h3, h4⟩ := hX
      obtain ⟨b1, b2, hk⟩ := boundK_some hk
      simp only [List.cons.injEq, and_true] at h1
      obtain ⟨ad, vs, h5, h6, h7, h8⟩ := h4 nn.toNat (xs.getD nn.toNat e.dflt) (by simp [List.getD, show nn.toNat < xs.length by omega])
      refine ⟨_, .pointer (some (ad.add (nn.toNat * e.sz))), w, hk, More.refl w, ⟨_, vs, rfl, by rw [add_block]; exact h6, cells_ok h7, fun j u hj => ?_⟩, ?_⟩
      · have := h8 j u hj
        have e' : (ad.add (nn.toNat * e.sz)).add j = ad.add (nn.toNat * e.sz + j) := by
          unfold Addr.add
          by_cases h0 : nn.toNat * e.sz = 0
          · rw [h0]; simp
          · by_cases h9 : j = 0
            · subst h9; simp [h0]
            · simp [h0, h9, Nat.add_assoc, show ¬ (nn.toNat * e.sz + j = 0) by omega]
        rw [e']; exact this
      · have hb : 0 ≤ nn ∧ nn < (len : Int) := ⟨b1, h2 ▸ b2⟩
        simp [execOp, ho, Instr.indexAt, hI.int, asIntOf, run_underlying hT, h1, h5, hb, hel.size, hsz]
    · rename_i id q
      obtain ⟨⟨el, hkd⟩, hsz⟩ := hsz
      have hT := hT hkd
      split at hk
      · rename_i T0 e dp xs hm
        split at hk
        · rename_i T' e' ys hp
          obtain ⟨_, n, kids, hg⟩ := hX
          have hM := h.mem id
          rw [hm] at hM
          obtain ⟨T2, e2, ys2, h2, h3, h4⟩ := Own.get q hM hg
          rw [hp] at h2
          injection h2 with h2
          cases h2
          have hd : dp + 1 - q.length = (dp - q.length) + 1 := by omega
          rw [hd] at h4
          obtain ⟨n1, kids1, cs, ht, h5, h6, _⟩ := h4
          injection ht with _ ht1 ht2
          subst ht1; subst ht2
          obtain ⟨b1, b2, hk⟩ := boundK_some hk
          have hb : 0 ≤ nn ∧ nn < (n : Int) := ⟨b1, by rw [← h5]; exact b2⟩
          obtain ⟨bb, cap, hv⟩ := own_form h6 (by omega)
          refine ⟨_, .pointer (some ((⟨bb, 0, none⟩ : Addr).add nn.toNat)), w, hk, More.refl w, .inl ⟨⟨T0, e, dp, xs, hm⟩, bb, cap, n, kids, hv ▸ hg, by have := hb.2; omega, by rw [add_none, Nat.zero_add]⟩, ?_⟩
          simp [execOp, ho, Instr.indexAt, hI.int, asIntOf, run_underlying hT, hv, hb, hel.size, hsz]
        · simp at hk
      · simp at hk
    · rename_i id off
      obtain ⟨⟨n0, el, hkd⟩, hsz⟩ := hsz
      have hT := hty.array hkd
      obtain ⟨hp, _⟩ := hX
      split at hk
      · rename_i e n xs hm
        rcases cond_some hk with ⟨hb, hk2⟩ | ⟨_, hk2⟩
        · simp only [Bool.and_eq_true] at hb
          have hb2 := Nat.eq_of_beq_eq_true hb.2
          have hb := Nat.eq_of_beq_eq_true hb.1
          subst hb
          obtain ⟨b1, b2, hk3⟩ := boundK_some hk2
          have hn : n0 = n := by
            have he : (E.ty T).elem = el := by simp only [TI.elem, hkd]
            rw [he] at hel
            rw [(hty.zeroA hkd hel).1, hb2]
          subst hn
          have hb : 0 ≤ nn ∧ nn < (n0 : Int) := ⟨b1, b2⟩
          have he : (E.ty T).elem = el := by simp only [TI.elem, hkd]
          rw [he] at hel hsz
          refine ⟨_, .pointer (some ((⟨(g id).blk, 0, none⟩ : Addr).add nn.toNat)), w, hk3, More.refl w, .inr ⟨rfl, ⟨e, n0, xs, hm, by omega⟩, by rw [add_none, Nat.zero_add]⟩, ?_⟩
          simp [execOp, ho, Instr.indexAt, Instr.sureAddr, hI.int, asIntOf, run_underlying hT, hp, hb, hel.size, hsz]
        · cases hk2
      · cases hk
    · simp at hk
  · simp at hk
theorem y_index {T : Nat} {x i : Operand} (h : SR w0 io E.ntmps S g a w) (hty : TyOK P T (E.ty T)) (hel : (E.ty T).isArr = true → TyOK P (E.ty T).elem (E.ty (E.ty T).elem)) {o : Oper} (ho : o.op = .index T x i)
    (hT : match S.ev E T x with
      | .arr _ n _ => (∃ el, (E.ty T).kind = .arr n el) ∧ (E.ty (E.ty T).elem).sz = 1 ∧ (E.ty (E.ty T).elem).agg = false ∧ (E.ty (E.ty T).elem).isArr = false
      | _ => (E.ty T).kind = .str)
    (hk : indexK (S.ev E T x) (S.ev E 0 i) κ = some r) : Yields P S g a w o κ r := by
  have hX := ev_ok h T x
  have hI := ev_ok h 0 i
  generalize S.ev E T x = X at *
  generalize S.ev E 0 i = I at *
  unfold indexK at hk
  split at hk
  · rename_i k nn s
    obtain ⟨u, hu, hkd⟩ := hty.kinds
    rw [hT] at hkd
    simp only [kindOK] at hkd; subst hkd
    obtain ⟨b1, b2, hk⟩ := boundK_some hk
    have hlt : nn.toNat < s.size := by omega
    refine ⟨_, .int .u8 (bt s nn), w, hk, More.refl w, rfl, ?_⟩
    have hg : s[nn.toNat]? = some (s.data.toList.getD nn.toNat 0) := by
      rw [getElem?_pos s nn.toNat hlt]
      congr 1
      have hlt' : nn.toNat < s.data.size := hlt
      simp [ByteArray.getElem_eq_getElem_data, List.getD, getElem?_pos s.data nn.toNat hlt']
    simp [execOp, ho, Instr.index, hI.int, hX.str.1, asIntOf, run_underlying hu, b1, hg, bt]
  · rename_i k nn e n xs
    obtain ⟨⟨el, hkd⟩, hsz, hag, har⟩ := hT
    have hT := hty.array hkd
    have he : (E.ty T).elem = el := by simp only [TI.elem, hkd]
    have hel := hel (by simp only [TI.isArr, hkd])
    rw [he] at hel hsz hag har
    obtain ⟨b1, b2, hk⟩ := boundK_some hk
    obtain ⟨vs, hv, hn, hl⟩ := hX
    obtain ⟨cv, hcv, hr⟩ := hl.get nn.toNat (xs.getD nn.toNat e.dflt) (by simp [List.getD, show nn.toNat < xs.length by omega])
    refine ⟨_, cv, w, hk, More.refl w, R3.of0 hr, ?_⟩
    have hcv' : vs[nn.toNat]? = some cv := by simpa using hcv
    have hb : 0 ≤ nn ∧ nn < (n : Int) := ⟨b1, b2⟩
    simp [execOp, ho, Instr.index, hI.int, asIntOf, run_underlying hT, asAgg, hv, hb, part, hel.isAgg, hel.size, hsz, hag, har, hcv']
  · simp at hk

theorem y_len {T : Nat} {c : Call} (h : SR w0 io E.ntmps S g a w) (hty : TyOK P T (E.ty T)) (hT : (∃ e, (E.ty T).kind = .sl e) ∨ (E.ty T).kind = .str) {o : Oper} {x : Operand} (ho : o.op = .call c) (hcal : c.callee = .builtin .len) (hargs : c.args.toList = [x]) (hT0 : c.argTypes.toList[0]? = some T)
    (hk : lenK S.m (nrm (S.ev E T x)) κ = some r) (hsl : (∃ e, (E.ty T).kind = .sl e) ∨ ∃ s, nrm (S.ev E T x) = .d .str s) (hst : (E.ty T).kind = .str ∨ ∀ s, nrm (S.ev E T x) ≠ .d .str s) : Yields P S g a w o κ r := by
  have hX := R3.nrm (ev_ok h T x)
  have hT0' : c.argTypes[0]? = some T := by simpa using hT0
  have hargs' : c.args = #[x] := by rw [← hargs]
  have hrun : ∀ V, (Builtin.len_ c.argTypes o.type #[a.eval x]).run P w = .ok V w → (execOp a.eval o).run P w = .ok (.value V) w := by
    intro V hV
    simp [execOp, ho, resolve, hcal, hargs', invoke, builtin, hV]
  have hlen : ∀ (A : Option Addr) (n c' : Nat), a.eval x = .slice A n c' → (∃ e, (E.ty T).kind = .sl e) → (execOp a.eval o).run P w = .ok (.value (.int .i64 n)) w := by
    rintro A n c' he ⟨e, hk⟩
    refine hrun _ ?_
    simp [Builtin.len_, hT0', he, run_underlying (hty.slice hk), goInt]
  generalize nrm (S.ev E T x) = X at *
  unfold lenK at hk
  split at hk
  · rename_i s
    rcases hst with hst | hst
    · obtain ⟨u, h1, h2⟩ := hty.kinds
      rw [hst] at h2; simp only [kindOK] at h2; subst h2
      refine ⟨_, .int .i64 s.size, w, hk, More.refl w, rfl, hrun _ ?_⟩
      simp [Builtin.len_, hT0', hX.str.1, run_underlying h1, goInt]
    · exact absurd rfl (hst s)
  · rename_i T' e xs
    obtain ⟨A, n, c', h1, h2, _⟩ := hX
    simp only [List.cons.injEq, and_true] at h1
    refine ⟨_, .int .i64 n, w, hk, More.refl w, by rw [h2]; exact rfl, hlen A n c' h1 ?_⟩
    rcases hsl with hsl | ⟨s, hs⟩
    · exact hsl
    · cases hs
  · rename_i id q
    obtain ⟨_, n, kids, hg⟩ := hX
    split at hk
    · rename_i T0 e dp xs hm
      split at hk
      · rename_i T' e' ys hp
        have hM := h.mem id
        rw [hm] at hM
        obtain ⟨T2, e2, ys2, h2, h3, h4⟩ := Own.get q hM hg
        rw [hp] at h2
        injection h2 with h2
        cases h2
        have hd : dp + 1 - q.length = (dp - q.length) + 1 := by omega
        rw [hd] at h4
        obtain ⟨A, c', _, hv, _⟩ := h4.slice
        refine ⟨_, .int .i64 ys.length, w, hk, More.refl w, rfl, hlen A _ c' hv ?_⟩
        rcases hsl with hsl | ⟨s, hs⟩
        · exact hsl
        · cases hs
      · simp at hk
    · simp at hk
  · simp at hk
theorem y_max {c : Call} (h : SR w0 io E.ntmps S g a w) {o : Oper} {x y : Operand} (ho : o.op = .call c) (hcal : c.callee = .builtin .max) (hargs : c.args.toList = [x, y]) {k : IntKind} {u v : Int} (hx : S.ev E 0 x = .d (.int k) u) (hy : S.ev E 0 y = .d (.int k) v)
    (hk : κ (.d (.int k) (bif decide (u < v) then v else u)) = some r) : Yields P S g a w o κ r := by
  have hX := ev_ok h 0 x
  have hY := ev_ok h 0 y
  rw [hx] at hX; rw [hy] at hY
  have hargs' : c.args = #[x, y] := by rw [← hargs]
  refine ⟨_, .int k (if v > u then v else u), w, hk, More.refl w, ?_, ?_⟩
  · have : (bif decide (u < v) then v else u) = if v > u then v else u := by by_cases e : u < v <;> simp [e]
    rw [this]; exact rfl
  · simp [execOp, ho, resolve, hcal, hargs', invoke, builtin, Builtin.max_, Builtin.max2, hX.int, hY.int]
theorem y_min {c : Call} (h : SR w0 io E.ntmps S g a w) {o : Oper} {x y : Operand} (ho : o.op = .call c) (hcal : c.callee = .builtin .min) (hargs : c.args.toList = [x, y]) {k : IntKind} {u v : Int} (hx : S.ev E 0 x = .d (.int k) u) (hy : S.ev E 0 y = .d (.int k) v)
    (hk : κ (.d (.int k) (bif decide (v < u) then v else u)) = some r) : Yields P S g a w o κ r := by
  have hX := ev_ok h 0 x
  have hY := ev_ok h 0 y
  rw [hx] at hX; rw [hy] at hY
  have hargs' : c.args = #[x, y] := by rw [← hargs]
  refine ⟨_, .int k (if v < u then v else u), w, hk, More.refl w, ?_, ?_⟩
  · have : (bif decide (v < u) then v else u) = if v < u then v else u := by by_cases e : v < u <;> simp [e]
    rw [this]; exact rfl
  · simp [execOp, ho, resolve, hcal, hargs', invoke, builtin, Builtin.min_, Builtin.min2, hX.int, hY.int]
theorem add_add (ad : Addr) (i j : Nat) : (ad.add i).add j = ad.add (i + j) := by
  unfold Addr.add
  by_cases h0 : i = 0
  · subst h0; simp
  · by_cases h9 : j = 0
    · subst h9; simp [h0]
    · simp [h0, h9, Nat.add_assoc, show ¬ (i + j = 0) by omega]
theorem bound_run {i : Int} {y : Nat} {k : IntKind} (code : BoundsCode) (h0 : 0 ≤ i) (h1 : i < ((y + 1 : Nat) : Int)) : (Instr.sliceBound (.int k i) y code).run P w = .ok i.toNat w := by
  have : 0 ≤ i ∧ i ≤ (y : Int) := ⟨h0, by omega⟩
  simp [Instr.sliceBound, asIntOf, this]
theorem y_slice {T : Nat} {x : Operand} {lo hi : Option Operand} (h : SR w0 io E.ntmps S g a w) (hty : TyOK P T (E.ty T)) {o : Oper} (ho : o.op = .slice T x lo hi none)
    (hst : ∀ s, nrm (S.ev E T x) = .d .str s → (E.ty T).kind = .str) (hsl : ∀ T' e xs, nrm (S.ev E T x) = .d (.sl T' e) xs → ∃ el, (E.ty T).kind = .sl el ∧ TyOK P el (E.ty el) ∧ e.sz = (E.ty el).sz)
    (hk : sliceK (nrm (S.ev E T x)) (lo.map (S.ev E 0)) (hi.map (S.ev E 0)) κ = some r) : Yields P S g a w o κ r := by
  have hX := R3.nrm (ev_ok h T x)
  have hint : ∀ (y : Operand) (k : IntKind) (z : Int), S.ev E 0 y = .d (.int k) z → a.eval y = .int k z := fun y k z hy => by
    have := ev_ok h 0 y; rw [hy] at this; exact this.int
  generalize hXe : nrm (S.ev E T x) = X at *
  unfold sliceK at hk
  split at hk
  · rename_i s
    obtain ⟨u, h1, h2⟩ := hty.kinds
    rw [hst s rfl] at h2; simp only [kindOK] at h2; subst h2
    obtain ⟨hs, hmax⟩ := hX.str
    have hsub : ∀ i j : Nat, (s.extract i j).size ≤ maxLen := fun i j => by have : (s.extract i j).size = min j s.size - i := ByteArray.size_extract; omega
    have fin : ∀ l h', κ (.d .str (s.extract l h')) = some r → (Instr.slice T (.string s) (lo.map a.eval) (hi.map a.eval) none).run P w = .ok (.string (s.extract l h')) w → Yields P S g a w o κ r := by
      intro l h' hk hr
      refine ⟨_, .string (s.extract l h'), w, hk, More.refl w, ⟨rfl, hsub _ _⟩, ?_⟩
      simp [execOp, ho, Instr.sliceAt, run_underlying h1, hs, hr]
    split at hk
    · rename_i k1 l k2 h' hl hh
      obtain ⟨hb1, hb2, hk⟩ := boundK_some hk
      obtain ⟨hb3, hb4, hk⟩ := boundK_some hk
      obtain ⟨y1, rfl, hy1⟩ := Option.map_eq_some_iff.1 hl
      obtain ⟨y2, rfl, hy2⟩ := Option.map_eq_some_iff.1 hh
      refine fin _ _ hk ?_
      simp [Instr.slice, run_underlying h1, Instr.sliceBounds, hint _ _ _ hy1, hint _ _ _ hy2, bound_run _ hb1 hb2, bound_run (y := h'.toNat) _ hb3 (by simpa using hb4)]
    · rename_i k1 l hl hh
      obtain ⟨hb3, hb4, hk⟩ := boundK_some hk
      obtain ⟨y1, rfl, hy1⟩ := Option.map_eq_some_iff.1 hl
      have hi0 : hi = none := by simpa using hh
      subst hi0
      refine fin _ _ hk ?_
      simp [Instr.slice, run_underlying h1, Instr.sliceBounds, hint _ _ _ hy1, bound_run _ hb3 hb4]
    · rename_i k2 h' hl hh
      obtain ⟨hb1, hb2, hk⟩ := boundK_some hk
      obtain ⟨y2, rfl, hy2⟩ := Option.map_eq_some_iff.1 hh
      have hi0 : lo = none := by simpa using hl
      subst hi0
      refine fin _ _ hk ?_
      simp [Instr.slice, run_underlying h1, Instr.sliceBounds, hint _ _ _ hy2, bound_run _ hb1 hb2]
    · simp at hk
  · rename_i T' e xs
    obtain ⟨el, hkind, hel, hsz⟩ := hsl T' e xs rfl
    have h1 := hty.slice hkind
    obtain ⟨A, n, c, hv, hn, hc, hel2⟩ := hX
    simp only [List.cons.injEq, and_true] at hv
    have fin : ∀ (l h' : Nat), l ≤ h' → h' ≤ n → κ (.d (.sl T' e) ((xs.take h').drop l)) = some r → (Instr.slice T (.slice A n c) (lo.map a.eval) (hi.map a.eval) none).run P w = .ok (.slice (if c = l then A else A.map (·.add (l * (E.ty el).sz))) (h' - l) (c - l)) w → Yields P S g a w o κ r := by
      intro l h' hlh hhn hk hr
      refine ⟨_, _, w, hk, More.refl w, ?_, by simp only [execOp, ho, Instr.sliceAt]; simp [run_underlying h1, hv, hr]; rfl⟩
      refine ⟨_, h' - l, c - l, rfl, by rw [List.length_drop, List.length_take]; omega, by omega, fun i x' hi' => ?_⟩
      have hlt : i < h' - l := by
        have := (List.getElem?_eq_some_iff.1 hi').1
        rw [List.length_drop, List.length_take] at this; omega
      have hi2 : xs[l + i]? = some x' := by
        rw [List.getElem?_drop, List.getElem?_take] at hi'
        rw [if_pos (by omega)] at hi'
        exact hi'
      obtain ⟨ad, vs, e1, e2, e3, e4⟩ := hel2 (l + i) x' hi2
      refine ⟨ad.add (l * (E.ty el).sz), vs, by rw [if_neg (by omega), e1]; rfl, by rw [add_block]; exact e2, e3, fun j u hj => ?_⟩
      rw [add_add, ← hsz, ← Nat.add_assoc, ← Nat.add_mul]
      exact e4 j u hj
    split at hk
    · rename_i k1 l k2 h' hl hh
      obtain ⟨hb1, hb2, hk⟩ := boundK_some hk
      obtain ⟨hb3, hb4, hk⟩ := boundK_some hk
      obtain ⟨y1, rfl, hy1⟩ := Option.map_eq_some_iff.1 hl
      obtain ⟨y2, rfl, hy2⟩ := Option.map_eq_some_iff.1 hh
      refine fin l.toNat h'.toNat (by omega) (by omega) hk ?_
      simp [Instr.slice, run_underlying h1, Instr.sliceBounds, hint _ _ _ hy1, hint _ _ _ hy2, bound_run (y := c) _ hb1 (by omega), bound_run (y := h'.toNat) _ hb3 (by simpa using hb4), hel.size]
    · rename_i k1 l hl hh
      obtain ⟨hb3, hb4, hk⟩ := boundK_some hk
      obtain ⟨y1, rfl, hy1⟩ := Option.map_eq_some_iff.1 hl
      have hi0 : hi = none := by simpa using hh
      subst hi0
      refine fin l.toNat n (by omega) (Nat.le_refl _) (by rw [List.take_of_length_le (by omega)]; exact hk) ?_
      simp [Instr.slice, run_underlying h1, Instr.sliceBounds, hint _ _ _ hy1, bound_run (y := n) _ hb3 (by omega), hel.size]
    · rename_i k2 h' hl hh
      obtain ⟨hb1, hb2, hk⟩ := boundK_some hk
      obtain ⟨y2, rfl, hy2⟩ := Option.map_eq_some_iff.1 hh
      have hi0 : lo = none := by simpa using hl
      subst hi0
      refine fin 0 h'.toNat (by omega) (by omega) hk ?_
      simp [Instr.slice, run_underlying h1, Instr.sliceBounds, hint _ _ _ hy2, bound_run (y := c) _ hb1 (by omega), hel.size]
    · simp at hk
  · simp at hk

/-! ### values made -/
/-- One cell's value is one cell. -/
theorem cell_one (hm : ∀ id, MR w ok m g (m id) (g id)) {x : AV} {v : Value} (h : R1 w ok m g x v) (hx : x.cellOk = true) : v.oneCell' = true := by
  cases x with
  | d e y => exact Rd.one (show Rd w ok e y [v] from h) v (by simp)
  | fn f l => obtain ⟨vs, h1, h2⟩ := h; subst h1; rfl
  | ptr id off => obtain ⟨h1, h2⟩ := h; subst h1; rfl
  | iptr l => obtain ⟨ad, vs, h1, h2⟩ := h; subst h1; rfl
  | ref id q =>
    obtain ⟨⟨T, e, dp, xs, h2⟩, n, kids, hg⟩ := h
    have hM := hm id
    rw [h2] at hM
    obtain ⟨T', e', ys, _, h3, h4⟩ := Own.get q hM hg
    exact h4.one
  | eptr id q j => rcases h with ⟨_, _, _, _, _, _, _, h⟩ | ⟨_, _, h⟩ <;> (subst h; rfl)
  | nilI => have h : v = .nilIface := h; subst h; rfl
  | nilS T e => have h : v = .slice none 0 0 := h; subst h; rfl
  | _ => simp [AV.cellOk] at hx
theorem cells_of_one {v : Value} (h : v.oneCell' = true) : v.cells.toList = [v] := by cases v <;> simp only [Value.oneCell', Bool.false_eq_true] at h <;> rfl
theorem solid_cells (hm : ∀ id, MR w ok m g (m id) (g id)) {x : AV} {v : Value} (h : R3 w ok m g x v) (hs : x.solid = true) : All2 (R1 w ok m g) x.cells v.cells.toList ∧ ∀ u ∈ v.cells.toList, u.oneCell' = true := by
  by_cases ha : ∃ l, x = .agg l
  · obtain ⟨l, rfl⟩ := ha
    obtain ⟨vs, h1, h2⟩ := h
    subst h1
    refine ⟨h2, fun u hu => ?_⟩
    obtain ⟨j, hj⟩ := List.mem_iff_getElem?.1 hu
    obtain ⟨y, hy, hr⟩ := h2.get' j u hj
    exact cell_one hm hr (List.all_eq_true.1 hs y (List.mem_of_getElem? hy))
  · have hc : x.cellOk = true := by cases x <;> first | exact hs | exact absurd ⟨_, rfl⟩ ha
    have h1 : R1 w ok m g x v := by cases x <;> first | exact h | (simp [AV.cellOk] at hc; done)
    have ho := cell_one hm h1 hc
    have hx : x.cells = [x] := by cases x <;> first | rfl | exact absurd ⟨_, rfl⟩ ha
    rw [hx, cells_of_one ho]
    exact ⟨.cons h1 .nil, by simpa using ho⟩

/-- Cells laid into a row. -/
theorem foldl_set (vs : List Value) : ∀ (off k : Nat) (cs : Array Value), off + k + vs.length ≤ cs.size → ((vs.zipIdx k).foldl (fun cs (p : Value × Nat) => cs.setIfInBounds (off + p.2) p.1) cs).toList = cs.toList.take (off + k) ++ vs ++ cs.toList.drop (off + k + vs.length) := by
  induction vs with
  | nil => intro off k cs h; simp
  | cons v vs ih =>
    intro off k cs h
    simp only [List.length_cons] at h
    rw [List.zipIdx_cons, List.foldl_cons, ih off (k + 1) _ (by simp; omega)]
    simp only [Array.toList_setIfInBounds]
    have hlt : off + k < cs.toList.length := by simp; omega
    rw [show off + (k + 1) = off + k + 1 from by omega, List.take_set, List.drop_set]
    rw [if_pos (by omega)]
    rw [List.take_succ_eq_append_getElem hlt]
    simp only [List.length_cons]
    have : (cs.toList.take (off + k) ++ [cs.toList[off + k]]).set (off + k) v = cs.toList.take (off + k) ++ [v] := by
      rw [List.set_append_right _ _ (by simp; omega)]
      have : off + k - (cs.toList.take (off + k)).length = 0 := by simp; omega
      rw [this]; rfl
    rw [this]
    simp [Nat.add_assoc, Nat.add_comm, Nat.add_left_comm]
theorem splice_all2 {l c : List AV} {vs us : List Value} (h1 : All2 (R1 w ok m g) l vs) (h2 : All2 (R1 w ok m g) c us) (off : Nat) : All2 (R1 w ok m g) (splice l off c) (vs.take off ++ us ++ vs.drop (off + us.length)) := by
  unfold splice
  rw [h2.length]
  exact ((h1.take off).append h2).append (h1.drop _)
theorem fill_ok (hm : ∀ id, MR w ok m g (m id) (g id)) (fs : List (Nat × Nat)) (place : Nat → Option (Nat × Nat)) (hp : ∀ f o t, fs[f]? = some (o, t) → place f = some (o, (E.ty t).sz)) :
    ∀ (parts : List (Nat × AV)) (vparts : List (Nat × Value)) (l : List AV) (cs : Array Value) (l' : List AV), All2 (fun (p : Nat × AV) (q : Nat × Value) => p.1 = q.1 ∧ R3 w ok m g p.2 q.2) parts vparts → All2 (R1 w ok m g) l cs.toList → fillCells E l fs parts = some l' →
      ∃ cs', Instr.fill place cs vparts = some cs' ∧ All2 (R1 w ok m g) l' cs'.toList := by
  intro parts
  induction parts with
  | nil =>
    intro vparts l cs l' h1 h2 h3
    cases h1
    simp only [fillCells, Option.some.injEq] at h3
    subst h3
    exact ⟨cs, rfl, h2⟩
  | cons p parts ih =>
    intro vparts l cs l' h1 h2 h3
    cases h1 with
    | cons h4 h5 =>
      rename_i q vparts
      obtain ⟨f, x⟩ := p
      obtain ⟨f', v⟩ := q
      obtain ⟨e, hr⟩ := h4
      simp only at e hr
      subst e
      simp only [fillCells] at h3
      split at h3
      · rename_i o t hf
        rcases cond_some h3 with ⟨hb, h3⟩ | ⟨_, h3⟩
        · simp only [Bool.and_eq_true] at hb
          obtain ⟨⟨hb1, hb2⟩, hb3⟩ := hb
          obtain ⟨hc, _⟩ := solid_cells hm hr hb2
          have e1 : x.cells.length = (E.ty t).sz := Nat.eq_of_beq_eq_true hb1
          have e2 : v.cells.toList.length = x.cells.length := hc.length.symm
          have e3 : x.cells.length + o ≤ l.length := by have := Nat.le_of_ble_eq_true hb3; omega
          have e4 : l.length = cs.size := by simpa using h2.length
          have e5 : v.cells.size = x.cells.length := by simpa using e2
          have hfold := foldl_set v.cells.toList o 0 cs (by simp only [e2]; omega)
          have hz : (v.cells.zipIdx.foldl (fun cs (p : Value × Nat) => cs.setIfInBounds (o + p.2) p.1) cs) = (v.cells.toList.zipIdx 0).foldl (fun cs (p : Value × Nat) => cs.setIfInBounds (o + p.2) p.1) cs := by
            rw [← Array.foldl_toList]; simp
          obtain ⟨cs', h6, h7⟩ := ih vparts _ (v.cells.zipIdx.foldl (fun cs (p : Value × Nat) => cs.setIfInBounds (o + p.2) p.1) cs) l' h5 (by
            rw [hz, hfold]
            simpa using splice_all2 h2 hc o) h3
          refine ⟨cs', ?_, h7⟩
          have hcond : (decide (v.cells.size ≠ (E.ty t).sz) || decide (o + v.cells.size > cs.size)) = false := by
            simp only [Bool.or_eq_false_iff, decide_eq_false_iff_not, ne_eq, Decidable.not_not, gt_iff_lt, Nat.not_lt]
            omega
          simp only [Instr.fill, hp f o t hf, hcond, Bool.false_eq_true, if_false]
          exact h6
        · simp at h3
      · simp at h3
theorem mapM_places (P : Program) (w : World) (fs : List Field) (sz : Field → Nat) (h : ∀ f ∈ fs, (sizeOf f.type).run P w = .ok (sz f) w) :
    ((fs.toArray.mapM fun f => do pure (f.offset, ← sizeOf f.type) : Sem (Array (Nat × Nat)))).run P w = .ok (fs.map fun f => (f.offset, sz f)).toArray w := by
  have key : ∀ (l : List Field), (∀ f ∈ l, (sizeOf f.type).run P w = .ok (sz f) w) → (l.mapM (fun f => do pure (f.offset, ← sizeOf f.type) : Field → Sem (Nat × Nat))).run P w = .ok (l.map fun f => (f.offset, sz f)) w := by
    intro l
    induction l with
    | nil => intro _; simp
    | cons f l ih =>
      intro h
      have h1 := h f (by simp)
      have h2 := ih fun f hf => h f (by simp [hf])
      simp only [List.mapM_cons, Sem.run_bind, h1, Result.andThen_ok, Sem.run_pure, h2, List.map_cons]
  rw [Array.mapM_eq_mapM_toList]
  simp only [Sem.run_map, key fs h, Result.andThen_ok]
theorem y_build {T : Nat} {parts : Array (Nat × Operand)} (h : SR w0 io E.ntmps S g a w) (hty : TyOK P T (E.ty T)) {o : Oper} (ho : o.op = .build T parts)
    (hst : ∃ l, (E.ty T).kind = .st l) (hfl : ∀ p ∈ (E.ty T).flds, TyOK P p.2 (E.ty p.2)) {l : List AV}
    (hl : fillCells E (E.ty T).zero (E.ty T).flds (parts.toList.map fun p => (p.1, S.ev E (((E.ty T).flds[p.1]?).getD (0, 0)).2 p.2)) = some l) (hk : κ (.agg l) = some r) : Yields P S g a w o κ r := by
  obtain ⟨z, hz, hzc⟩ := hty.zeroV
  obtain ⟨u, h1, h2⟩ := hty.kinds
  obtain ⟨fl, hkind⟩ := hst
  have hflds : (E.ty T).flds = fl := by unfold TI.flds; rw [hkind]
  rw [hkind] at h2
  obtain ⟨fs, rfl, h3⟩ := h2
  have hmap : ∀ f ∈ fs.toList, (f.offset, f.type) ∈ (E.ty T).flds := fun f hf => by rw [hflds, ← h3]; exact List.mem_map.2 ⟨f, hf, rfl⟩
  have hpl := mapM_places P w fs.toList (fun f => (E.ty f.type).sz) fun f hf => (hfl _ (hmap f hf)).size
  have hplace : ∀ (f o' t : Nat), (E.ty T).flds[f]? = some (o', t) → ((fs.toList.map fun f => (f.offset, (E.ty f.type).sz)).toArray)[f]? = some (o', (E.ty t).sz) := by
    intro f o' t hf
    rw [hflds, ← h3] at hf
    simp only [List.getElem?_map, Option.map_eq_some_iff, Prod.mk.injEq] at hf
    obtain ⟨fd, h4, h5, h6⟩ := hf
    simp only [List.getElem?_toArray, List.getElem?_map, h4, Option.map_some, h5, h6]
  have hparts : All2 (fun (p : Nat × AV) (q : Nat × Value) => p.1 = q.1 ∧ R3 w (okOf w S.m g) S.m g p.2 q.2) (parts.toList.map fun p => (p.1, S.ev E (((E.ty T).flds[p.1]?).getD (0, 0)).2 p.2)) (parts.toList.map fun p => (p.1, a.eval p.2)) := by
    generalize parts.toList = ps
    induction ps with
    | nil => exact .nil
    | cons p ps ih => exact .cons ⟨rfl, ev_ok h _ _⟩ ih
  have hzc := hzc (by simp only [TI.isArr, hkind])
  obtain ⟨cs', h6, h7⟩ := fill_ok h.mem (E.ty T).flds (fun i => ((fs.toList.map fun f => (f.offset, (E.ty f.type).sz)).toArray)[i]?) hplace _ _ _ z.cells l hparts (hzc.mono fun _ _ hz => .of0 (hz.rel _ _ _ _)) hl
  refine ⟨_, .agg cs', w, hk, More.refl w, ⟨cs', rfl, h7⟩, ?_⟩
  have e : (parts.map fun p => (p.1, a.eval p.2)).toList = parts.toList.map fun p => (p.1, a.eval p.2) := by simp
  have hpl' : ((fs.mapM fun f => do pure (f.offset, ← sizeOf f.type) : Sem (Array (Nat × Nat)))).run P w = .ok (fs.toList.map fun f => (f.offset, (E.ty f.type).sz)).toArray w := hpl
  simp only [execOp, ho, Instr.build, Sem.run_bind, hz, Result.andThen_ok, run_underlying h1, hpl', e]
  rw [h6]
  rfl

/-- The zero of an element's type. -/
theorem zero_el {j : TI} {el : Nat} (he : TyOK P el j) (hna : j.isArr = false) {z0 : Value} (hz : ∀ w, (zeroValue el).run P w = .ok z0 w) : All2 Z0 j.zero z0.cells.toList := by
  obtain ⟨z, h1, h2⟩ := he.zeroV
  have h3 := h1 default
  rw [hz default] at h3
  injection h3 with h3
  rw [h3]; exact h2 hna
theorem asE_some {e : ET} {x : AV} {y : e.ty} (h : asE e x = some y) : nrm x = .d e y := by
  unfold asE at h
  split at h
  · split at h
    · rename_i e' z he; subst he; simp only [Option.some.injEq] at h; rw [h]; rfl
    · cases h
  · split at h
    · rename_i T' e' he; subst he; simp only [Option.some.injEq] at h; rw [← h]; rfl
    · cases h
  · cases h
theorem asE_ok {e : ET} {x : AV} {y : e.ty} {v : Value} (h : asE e x = some y) (hr : R1 w ok m g x v) : Rd w ok e y [v] := by
  have := R1.nrm hr
  rw [asE_some h] at this; exact this
theorem asE_cell {e : ET} {x : AV} {y : e.ty} (h : asE e x = some y) : x.cellOk = true := by
  have := asE_some h
  cases x <;> simp only [nrm] at this <;> first | rfl | cases this
theorem take_one {e : ET} (hs : ∀ l, e.take l = match l with | v :: l' => (asE e v).map (·, l') | [] => none) {l : List AV} {vs : List Value} (hl : All2 (R1 w ok m g) l vs) {x : e.ty} {l' : List AV} (h : e.take l = some (x, l')) :
    ∃ v1 v2, vs = v1 ++ v2 ∧ Rd w ok e x v1 ∧ All2 (R1 w ok m g) l' v2 := by
  rw [hs] at h
  cases hl with
  | nil => simp at h
  | cons h1 h2 =>
    rename_i y v l1 vs
    simp only [Option.map_eq_some_iff, Prod.mk.injEq] at h
    obtain ⟨z, h3, h4, h5⟩ := h
    subst h4; subst h5
    exact ⟨[v], vs, rfl, asE_ok h3 h1, h2⟩
theorem take_ok : ∀ {e : ET} {l : List AV} {vs : List Value}, All2 (R1 w ok m g) l vs → ∀ {x : e.ty} {l' : List AV}, e.take l = some (x, l') → ∃ v1 v2, vs = v1 ++ v2 ∧ Rd w ok e x v1 ∧ All2 (R1 w ok m g) l' v2 := by
  intro e
  induction e with
  | int k => intro l vs hl x l' h; exact take_one (fun l => by cases l <;> rfl) hl h
  | bool => intro l vs hl x l' h; exact take_one (fun l => by cases l <;> rfl) hl h
  | str => intro l vs hl x l' h; exact take_one (fun l => by cases l <;> rfl) hl h
  | sl T e ih => intro l vs hl x l' h; exact take_one (fun l => by cases l <;> rfl) hl h
  | pr a b iha ihb =>
    intro l vs hl x l' h
    simp only [ET.take] at h
    split at h
    · rename_i x1 l1 h1
      split at h
      · rename_i x2 l2 h2
        simp only [Option.some.injEq, Prod.mk.injEq] at h
        obtain ⟨h3, h4⟩ := h
        subst h3; subst h4
        obtain ⟨v1, v2, e1, r1, a1⟩ := iha hl h1
        obtain ⟨v3, v4, e2, r2, a2⟩ := ihb a1 h2
        exact ⟨v1 ++ v3, v4, by rw [e1, e2, List.append_assoc], ⟨v1, v3, rfl, r1, r2⟩, a2⟩
      · cases h
    · cases h
theorem take_solid {e : ET} : ∀ {l : List AV} {x : e.ty} {l' : List AV}, e.take l = some (x, l') → ∃ l1, l = l1 ++ l' ∧ (∀ y ∈ l1, y.cellOk = true) ∧ l1.length = e.sz := by
  induction e with
  | pr a b iha ihb =>
    intro l x l' h
    simp only [ET.take] at h
    split at h
    · rename_i x1 l1 h1
      split at h
      · rename_i x2 l2 h2
        simp only [Option.some.injEq, Prod.mk.injEq] at h
        obtain ⟨h3, h4⟩ := h
        subst h4
        obtain ⟨u1, e1, c1, n1⟩ := iha h1
        obtain ⟨u2, e2, c2, n2⟩ := ihb h2
        exact ⟨u1 ++ u2, by rw [e1, e2, List.append_assoc], fun y hy => (List.mem_append.1 hy).elim (c1 y) (c2 y), by simp [n1, n2, ET.sz]⟩
      · cases h
    · cases h
  | _ =>
    intro l x l' h
    cases l with
    | nil => simp [ET.take] at h
    | cons y l =>
      simp only [ET.take, Option.map_eq_some_iff, Prod.mk.injEq] at h
      obtain ⟨z, h3, h4, h5⟩ := h
      subst h5
      exact ⟨[y], rfl, by intro y' hy'; rw [List.mem_singleton] at hy'; rw [hy']; exact asE_cell h3, rfl⟩
/-- Elements out of values. -/
theorem elems_ok (hm : ∀ id, MR w ok m g (m id) (g id)) {e : ET} : ∀ {l : List AV} {vs : List Value}, All2 (R3 w ok m g) l vs → ∀ {xs : List e.ty}, elems e l = some xs → All2 (fun x v => Rd w ok e x v.cells.toList) xs vs := by
  intro l
  induction l with
  | nil => intro vs h xs hx; cases h; simp only [elems, Option.some.injEq] at hx; subst hx; exact .nil
  | cons y l ih =>
    intro vs h xs hx
    cases h with
    | cons h1 h2 =>
      simp only [elems] at hx
      split at hx
      · rename_i x1 hx1
        split at hx
        · rename_i xs1 hxs1
          simp only [Option.some.injEq] at hx
          subst hx
          refine .cons ?_ (ih h2 hxs1)
          obtain ⟨l1, e1, c1, _⟩ := take_solid hx1
          rw [List.append_nil] at e1
          have hs : y.solid = true := by
            cases y with
            | agg l => exact List.all_eq_true.2 fun z hz => c1 z (by rw [← e1]; exact hz)
            | _ => subst e1; have h9 := c1; simp only [AV.cells, List.mem_singleton, forall_eq] at h9; exact h9
          obtain ⟨hc, _⟩ := solid_cells hm h1 hs
          obtain ⟨v1, v2, e2, r2, a2⟩ := take_ok hc hx1
          cases a2
          rw [e2, List.append_nil]; exact r2
        · cases hx
      · cases hx
theorem flat_get {α : Type} {sz : Nat} : ∀ {vss : List (List α)}, (∀ vs ∈ vss, vs.length = sz) → ∀ (i j : Nat) (vs : List α) (u : α), vss[i]? = some vs → vs[j]? = some u → vss.flatten[i * sz + j]? = some u := by
  intro vss
  induction vss with
  | nil => intro _ i j vs u h; simp at h
  | cons v vss ih =>
    intro hl i j vs u h1 h2
    have hv : v.length = sz := hl v (by simp)
    cases i with
    | zero =>
      simp only [List.getElem?_cons_zero, Option.some.injEq] at h1
      subst h1
      rw [Nat.zero_mul, Nat.zero_add, List.flatten_cons, List.getElem?_append_left (List.getElem?_eq_some_iff.1 h2).1]
      exact h2
    | succ i =>
      simp only [List.getElem?_cons_succ] at h1
      rw [List.flatten_cons, List.getElem?_append_right (by rw [hv, Nat.succ_mul]; omega)]
      have := ih (fun vs h => hl vs (by simp [h])) i j vs u h1 h2
      rw [← this, hv]; congr 1
      rw [Nat.succ_mul]; omega
theorem fill_all {sz : Nat} : ∀ (vs : List Value) (k : Nat) (cs : Array Value), (∀ v ∈ vs, v.cells.size = sz) → (k + vs.length) * sz ≤ cs.size →
    ∃ cs', Instr.fill (fun i => some (i * sz, sz)) cs ((vs.zipIdx k).map fun p => (p.2, p.1)) = some cs' ∧ cs'.toList = cs.toList.take (k * sz) ++ (vs.map fun v => v.cells.toList).flatten ++ cs.toList.drop ((k + vs.length) * sz) := by
  intro vs
  induction vs with
  | nil => intro k cs _ _; exact ⟨cs, rfl, by simp⟩
  | cons v vs ih =>
    intro k cs h1 h2
    have hv : v.cells.size = sz := h1 v (by simp)
    have hk : (k + (v :: vs).length) * sz = (k + 1 + vs.length) * sz := by rw [List.length_cons]; congr 1; omega
    have hk2 : (k + 1) * sz = k * sz + sz := Nat.succ_mul k sz
    have hk3 : (k + 1) * sz ≤ (k + 1 + vs.length) * sz := Nat.mul_le_mul_right _ (by omega)
    rw [hk] at h2 ⊢
    have hfold := foldl_set v.cells.toList (k * sz) 0 cs (by simp only [Array.length_toList, hv]; omega)
    have hz : (v.cells.zipIdx.foldl (fun cs (p : Value × Nat) => cs.setIfInBounds (k * sz + p.2) p.1) cs) = (v.cells.toList.zipIdx 0).foldl (fun cs (p : Value × Nat) => cs.setIfInBounds (k * sz + p.2) p.1) cs := by
      rw [← Array.foldl_toList]; simp
    have hlen : v.cells.toList.length = sz := by simpa using hv
    simp only [Nat.add_zero, hlen] at hfold
    have hsize : (v.cells.zipIdx.foldl (fun cs (p : Value × Nat) => cs.setIfInBounds (k * sz + p.2) p.1) cs).size = cs.size := by
      rw [hz, ← Array.length_toList, hfold]
      simp only [List.length_append, List.length_take, List.length_drop, Array.length_toList, hv]
      omega
    obtain ⟨cs', h3, h4⟩ := ih (k + 1) _ (fun v h => h1 v (by simp [h])) (by rw [hsize]; exact h2)
    refine ⟨cs', ?_, ?_⟩
    · have hcond : (decide (v.cells.size ≠ sz) || decide (k * sz + v.cells.size > cs.size)) = false := by
        simp only [Bool.or_eq_false_iff, decide_eq_false_iff_not, ne_eq, Decidable.not_not, gt_iff_lt, Nat.not_lt]
        omega
      simp only [List.zipIdx_cons, List.map_cons, Instr.fill, hcond, Bool.false_eq_true, if_false]
      exact h3
    · rw [h4, hz, hfold, List.map_cons, List.flatten_cons]
      have t1 : (cs.toList.take (k * sz) ++ v.cells.toList ++ cs.toList.drop (k * sz + sz)).take ((k + 1) * sz) = cs.toList.take (k * sz) ++ v.cells.toList := by
        rw [List.take_append_of_le_length (by simp only [List.length_append, List.length_take, Array.length_toList, hv]; omega)]
        rw [List.take_of_length_le (by simp only [List.length_append, List.length_take, Array.length_toList, hv]; omega)]
      have t2 : (cs.toList.take (k * sz) ++ v.cells.toList ++ cs.toList.drop (k * sz + sz)).drop ((k + 1 + vs.length) * sz) = cs.toList.drop ((k + 1 + vs.length) * sz) := by
        rw [List.drop_append, List.drop_of_length_le (by simp only [List.length_append, List.length_take, Array.length_toList, hv]; omega), List.nil_append, List.drop_drop]
        congr 1
        simp only [List.length_append, List.length_take, Array.length_toList, hv]
        omega
      rw [t1, t2]
      simp [List.append_assoc]
theorem inOrder_zip : ∀ {l : List (Nat × Operand)} {k : Nat}, inOrder k l = true → ∀ (f : Operand → Value), l.map (fun p => (p.1, f p.2)) = ((l.map fun p => f p.2).zipIdx k).map fun p => (p.2, p.1) := by
  intro l
  induction l with
  | nil => intro k _ f; rfl
  | cons p l ih =>
    intro k h f
    obtain ⟨i, x⟩ := p
    simp only [inOrder, Bool.and_eq_true] at h
    have e : i = k := Nat.eq_of_beq_eq_true h.1
    subst e
    simp only [List.map_cons, List.zipIdx_cons, ih h.2 f]
theorem zero_cell {j : TI} {el : Nat} (he : TyOK P el j) (hna : j.isArr = false) {z0 : Value} (hz : ∀ w, (zeroValue el).run P w = .ok z0 w) {e : ET} (hdz : e.take j.zero = some (e.dflt, [])) (h1 : z0.cells.toList = [z0]) : ∀ w ok, Rd w ok e e.dflt [z0] := by
  intro w ok
  have h6 := zero_el he hna hz
  rw [h1] at h6
  obtain ⟨v1, v2, e1, r1, a1⟩ := take_ok (m := fun _ => .none) (g := ⟨fun _ => ⟨0, .lf⟩, fun _ => False⟩) (h6.mono fun _ _ hz => R1.of0 (hz.rel w ok _ _)) hdz
  cases a1
  rw [List.append_nil] at e1
  rw [e1]; exact r1
theorem SR.exnew (h : SR w0 io n S g a w) : ¬ g.ex w.heap.size := fun he => by have := h.ex _ he; omega
theorem run_buildSlice {T n' : Nat} {parts : Array (Nat × Operand)} (h : SR w0 io E.ntmps S g a w) (hty : TyOK P T (E.ty T)) (hkd : ∃ e, (E.ty T).kind = .sl e) (hel : TyOK P (E.ty T).elem (E.ty (E.ty T).elem)) {o : Oper} (ho : o.op = .buildSlice T n' parts)
    (hn : parts.toList.length = n') (hord : inOrder 0 parts.toList = true) (hbig : n' * (E.ty (E.ty T).elem).sz ≤ 1000000) {e : ET} {xs : List e.ty} (hxs : elems e (parts.toList.map fun p => S.ev E (E.ty T).elem p.2) = some xs) (hsz : e.sz = (E.ty (E.ty T).elem).sz) :
    ∃ cs' : Array Value, cs'.toList = ((parts.toList.map fun p => a.eval p.2).map fun v => v.cells.toList).flatten ∧ (execOp a.eval o).run P w = .ok (.value (.slice (some ⟨w.heap.size, 0, none⟩) n' n')) (w.alloc (.cells cs' (E.ty T).elem)) ∧
      All2 (fun x v => Rd w (okOf w S.m g) e x v.cells.toList) xs (parts.toList.map fun p => a.eval p.2) ∧ (∀ v ∈ parts.toList.map (fun p => a.eval p.2), v.cells.size = (E.ty (E.ty T).elem).sz) ∧ (parts.toList.map (fun p => a.eval p.2)).length = n' := by
  obtain ⟨el, hkd⟩ := hkd
  have hT : P.underlying T = some (.slice (E.ty T).elem) := by have := hty.slice hkd; simp only [TI.elem, hkd]; exact this
  generalize hEl : (E.ty T).elem = el' at *
  have hvs : All2 (R3 w (okOf w S.m g) S.m g) (parts.toList.map fun p => S.ev E el' p.2) (parts.toList.map fun p => a.eval p.2) := by
    generalize parts.toList = ps
    induction ps with
    | nil => exact .nil
    | cons p ps ih => exact .cons (ev_ok h _ _) ih
  have hrd := elems_ok h.mem hvs hxs
  have hcells : ∀ v ∈ parts.toList.map (fun p => a.eval p.2), v.cells.size = (E.ty el').sz := by
    intro v hv
    obtain ⟨i, hi⟩ := List.mem_iff_getElem?.1 hv
    obtain ⟨x, _, hr⟩ := hrd.get' i v hi
    have := hr.len
    rw [← hsz, ← this]; simp
  obtain ⟨z, hz, hzc⟩ := hel.zeroV
  have hlen : (parts.toList.map (fun p => a.eval p.2)).length = n' := by simpa using hn
  have key : ∀ (cs : Array Value), cs.size = n' * (E.ty el').sz → ∃ cs', Instr.fill (fun i => some (i * (E.ty el').sz, (E.ty el').sz)) cs (parts.toList.map fun p => (p.1, a.eval p.2)) = some cs' ∧ cs'.toList = ((parts.toList.map fun p => a.eval p.2).map fun v => v.cells.toList).flatten := by
    intro cs hcs
    obtain ⟨cs', h1, h2⟩ := fill_all (sz := (E.ty el').sz) (parts.toList.map fun p => a.eval p.2) 0 cs hcells (by rw [Nat.zero_add, hlen, hcs]; exact Nat.le_refl _)
    rw [← inOrder_zip hord] at h1
    refine ⟨cs', h1, ?_⟩
    rw [h2, Nat.zero_mul, List.take_zero, List.nil_append, Nat.zero_add, hlen, List.drop_of_length_le (by simp [hcs]), List.append_nil]
  have hrun : ∃ cs' : Array Value, cs'.toList = ((parts.toList.map fun p => a.eval p.2).map fun v => v.cells.toList).flatten ∧ (execOp a.eval o).run P w = .ok (.value (.slice (some ⟨w.heap.size, 0, none⟩) n' n')) (w.alloc (.cells cs' el')) := by
    have e1 : (parts.map fun p => (p.1, a.eval p.2)).toList = parts.toList.map fun p => (p.1, a.eval p.2) := by simp
    have hnb : ¬ (n' * (E.ty el').sz > 2 ^ 24) := by omega
    by_cases h0 : n' * (E.ty el').sz = 0
    · obtain ⟨cs', h1, h2⟩ := key ((Array.range (n' * (E.ty el').sz)).map fun i => (#[] : Array Value)[i % (#[] : Array Value).size]!) (by simp)
      refine ⟨cs', h2, ?_⟩
      have hnb0 : ¬ ((0 : Nat) > 2 ^ 24) := by decide
      rw [h0] at h1
      simp only [execOp, ho, Instr.buildSlice, Sem.run_bind, run_underlying hT, hel.size, Result.andThen_ok, h0, hnb0, if_false, if_true, Sem.run_pure, pure_bind, e1]
      rw [h1]
      simp [newRow]
    · obtain ⟨cs', h1, h2⟩ := key ((Array.range (n' * (E.ty el').sz)).map fun i => z.cells[i % z.cells.size]!) (by simp)
      refine ⟨cs', h2, ?_⟩
      simp only [execOp, ho, Instr.buildSlice, Sem.run_bind, run_underlying hT, hel.size, Result.andThen_ok, hnb, if_false, h0, hz, Sem.run_pure, e1]
      rw [h1]
      simp [newRow]
  obtain ⟨cs', hcs, hrun⟩ := hrun
  exact ⟨cs', hcs, hrun, hrd, hcells, hlen⟩
theorem y_buildSlice {T n' : Nat} {parts : Array (Nat × Operand)} (h : SR w0 io E.ntmps S g a w) (hty : TyOK P T (E.ty T)) (hkd : ∃ e, (E.ty T).kind = .sl e) (hel : TyOK P (E.ty T).elem (E.ty (E.ty T).elem)) {o : Oper} (ho : o.op = .buildSlice T n' parts)
    (hn : parts.toList.length = n') (hord : inOrder 0 parts.toList = true) (hbig : n' * (E.ty (E.ty T).elem).sz ≤ 1000000) {e : ET} {xs : List e.ty} (hxs : elems e (parts.toList.map fun p => S.ev E (E.ty T).elem p.2) = some xs) (hsz : e.sz = (E.ty (E.ty T).elem).sz)
    (hk : κ (.d (.sl (E.ty T).elem e) xs) = some r) : Yields P S g a w o κ r := by
  obtain ⟨cs', hcs, hrun, hrd, hcells, hlen⟩ := run_buildSlice h hty hkd hel ho hn hord hbig hxs hsz
  generalize hEl : (E.ty T).elem = el' at *
  have hmore := More.alloc w (.cells cs' el')
  refine ⟨_, _, _, hk, hmore, ?_, hrun⟩
  have hx := hmore.ext S.m g
  refine ⟨some ⟨w.heap.size, 0, none⟩, n', n', rfl, by rw [hrd.length, hlen], Nat.le_refl _, fun i x hi => ?_⟩
  obtain ⟨v, hv, hr⟩ := hrd.get i x hi
  refine ⟨⟨w.heap.size, 0, none⟩, v.cells.toList, rfl, ⟨by simp, h.exnew, fun j hj => by have := (h.own j _ hj).1; simp at this⟩, hr.mono hx, fun j u hj => ?_⟩
  rw [add_none, Nat.zero_add, World.cell?_alloc_new]
  have hfl := flat_get (sz := e.sz) (vss := (parts.toList.map fun p => a.eval p.2).map fun v => v.cells.toList) (fun vs hvs => by
    obtain ⟨v', hv', rfl⟩ := List.mem_map.1 hvs
    simpa [hsz] using hcells v' hv') i j v.cells.toList u (by rw [List.getElem?_map, hv]; rfl) hj
  rw [← hcs] at hfl
  simpa using hfl
/-- An operation makes a new slice, of the call's own. -/
def YieldsOwn (P : Program) (S : St) (g : GM) (a : Act) (w : World) (o : Oper) (T : Nat) (e : ET) (dp : Nat) (xs : List e.ty) : Prop :=
  ∃ V w' t, (execOp a.eval o).run P w = .ok (.value V) w' ∧ More w w' ∧ Own w' (okOf w S.m g) (dp + 1) (.sl T e) xs t V ∧ ∀ k, k ∈ t.blocks → w.heap.size ≤ k ∧ k < w'.heap.size
/-- A slice whose elements are plain data. -/
theorem Own.flat {T dp : Nat} {e : ET} {xs : List e.ty} {v : Value} {cs : List Value} (ho : w.ownsRow 0 T 1 v xs.length cs) (hc : All2 (fun x c => Rd w ok e x [c]) xs cs) (hd : dp = 0 ∨ e.isSl = false) : Own w ok (dp + 1) (.sl T e) xs (.nd v xs.length fun _ => .lf) v := by
  refine ⟨xs.length, fun _ => .lf, cs, rfl, rfl, ho, fun i x c hi hci => ?_, fun i _ k hk => by simp [Tr.blocks] at hk, fun i j k _ _ hk => by simp [Tr.blocks] at hk⟩
  obtain ⟨c', hc', hr⟩ := hc.get i x hi
  rw [hci] at hc'; injection hc' with hc'; subst hc'
  exact (Own.leaf hd).2 ⟨rfl, hr⟩
theorem Tr.flat_blocks {v : Value} {n k : Nat} (h : k ∈ (Tr.nd v n fun _ => .lf).blocks) : v.ownBlock = some k := by
  rcases Tr.mem_nd.1 h with h | ⟨i, _, h⟩
  · exact h
  · simp [Tr.blocks] at h
theorem flat_one {ok : Nat → Prop} {e : ET} {xs : List e.ty} {vs : List Value} (h : All2 (fun x (v : Value) => Rd w ok e x v.cells.toList) xs vs) (h1 : e.sz = 1) : All2 (fun x c => Rd w ok e x [c]) xs (vs.map fun v => v.cells.toList).flatten := by
  induction h with
  | nil => exact .nil
  | @cons x v xs vs hr _ ih =>
    have hl := hr.len
    rw [h1] at hl
    obtain ⟨c, hc⟩ : ∃ c, v.cells.toList = [c] := by
      match hh : v.cells.toList, hl with
      | [c], _ => exact ⟨c, rfl⟩
    rw [List.map_cons, List.flatten_cons, hc]
    rw [hc] at hr
    exact .cons hr ih
theorem o_buildSlice {T n' : Nat} {parts : Array (Nat × Operand)} (h : SR w0 io E.ntmps S g a w) (hty : TyOK P T (E.ty T)) (hkd : ∃ e, (E.ty T).kind = .sl e) (hel : TyOK P (E.ty T).elem (E.ty (E.ty T).elem)) {o : Oper} (ho : o.op = .buildSlice T n' parts)
    (hn : parts.toList.length = n') (hord : inOrder 0 parts.toList = true) (hbig : n' * (E.ty (E.ty T).elem).sz ≤ 1000000) {e : ET} {xs : List e.ty} (hxs : elems e (parts.toList.map fun p => S.ev E (E.ty T).elem p.2) = some xs) (hsz : e.sz = (E.ty (E.ty T).elem).sz) (h1 : e.sz = 1) {dp : Nat} (hdp : dp = 0 ∨ e.isSl = false) :
    YieldsOwn P S g a w o (E.ty T).elem e dp xs := by
  obtain ⟨cs', hcs, hrun, hrd, hcells, hlen⟩ := run_buildSlice h hty hkd hel ho hn hord hbig hxs hsz
  have hfl := flat_one hrd h1
  rw [← hcs] at hfl
  have hx : xs.length = n' := by rw [hrd.length, hlen]
  have hl : cs'.toList.length = n' := by rw [← hfl.length, hx]
  have hmore := More.alloc w (.cells cs' (E.ty T).elem)
  have hrow : (w.alloc (.cells cs' (E.ty T).elem)).ownsRow 0 (E.ty T).elem 1 (.slice (some ⟨w.heap.size, 0, none⟩) n' n') xs.length cs'.toList := ⟨by rw [hl, hx, Nat.mul_one], .inr ⟨w.heap.size, n', cs', by rw [hx], Nat.zero_le _, heap_alloc_new w _, by rw [hx]; exact Nat.le_refl _, (by rw [← hsz, h1] at hbig; unfold maxLen; omega), by rw [Nat.mul_one]; simpa using hl, List.take_of_length_le (by rw [hl, hx, Nat.mul_one]; exact Nat.le_refl _)⟩⟩
  refine ⟨_, _, _, hrun, hmore, Own.flat hrow (hfl.mono fun _ _ => Rd.mono fun k hk => ⟨hk, hmore.same k hk.1⟩) hdp, ?_⟩
  intro k hk
  have hk := Tr.flat_blocks hk
  simp only [Value.ownBlock, Option.some.injEq] at hk
  subst hk
  simp
theorem run_makeSlice {T : Nat} {l c : Operand} (h : SR w0 io E.ntmps S g a w) (hty : TyOK P T (E.ty T)) (hkd : ∃ e, (E.ty T).kind = .sl e) (hel : TyOK P (E.ty T).elem (E.ty (E.ty T).elem)) {o : Oper} (ho : o.op = .makeSlice T l c)
    {x : Int} (hl : S.ev E 0 l = .d (.int .i64) x) (hlc : sameOp l c = true) (h0 : 0 ≤ x) (hfit : fits x.toNat (E.ty (E.ty T).elem).bytes = true) {e : ET} (he : elemE E T = some e) (hsz : e.sz = 1) (hsz2 : (E.ty (E.ty T).elem).sz = 1) :
    ∃ zv : Value, (∀ w ok, Rd w ok e e.dflt [zv]) ∧ (e.isSl = true → zv = .slice none 0 0) ∧ x.toNat ≤ 140737488355328 ∧ (execOp a.eval o).run P w = .ok (.value (.slice (some ⟨w.heap.size, 0, none⟩) x.toNat x.toNat)) (w.alloc (.cells (madeCells #[zv] x.toNat) (E.ty T).elem)) := by
  obtain ⟨el, hkd⟩ := hkd
  have hT : P.underlying T = some (.slice (E.ty T).elem) := by have := hty.slice hkd; simp only [TI.elem, hkd]; exact this
  have hL0 := ev_ok h 0 l
  rw [hl] at hL0
  have hL : a.eval l = .int .i64 x := hL0.int
  clear hL0
  have hC : ∃ kc, a.eval c = .int kc x := by
    cases l <;> cases c <;> simp only [sameOp, Bool.false_eq_true] at hlc
    · rw [← Nat.eq_of_beq_eq_true hlc]; exact ⟨_, hL⟩
    · rename_i v v'
      have hL' : v = .int .i64 x := hL
      subst hL'
      cases v' <;> simp only [Bool.false_eq_true, decide_eq_true_eq] at hlc
      rename_i k2 n2
      exact ⟨k2, by show Value.int k2 n2 = Value.int k2 x; rw [hlc]⟩
  obtain ⟨kc, hC⟩ := hC
  obtain ⟨inf, u, z, h1, h2, h3, h4, h5, h6, h7, _⟩ := hel.ex
  obtain ⟨hna, hdz⟩ := hel.dz e (by simpa [elemE] using he)
  have h6 := h6 hna
  obtain ⟨l1, hl1, _, hl3⟩ := take_solid hdz
  rw [List.append_nil] at hl1
  have hfit' := Nat.le_of_ble_eq_true hfit
  have hbx : (inf.bytes : Int) * x ≤ 281474976710656 := by
    have : ((x.toNat * (E.ty (E.ty T).elem).bytes : Nat) : Int) ≤ 140737488355328 := by omega
    rw [Int.natCast_mul, Int.toNat_of_nonneg h0] at this
    rw [h5, Int.mul_comm]; omega
  have hx63 : x ≤ 9223372036854775807 := by
    have hpos := hel.pos
    have : x.toNat * 1 ≤ x.toNat * (E.ty (E.ty T).elem).bytes := Nat.mul_le_mul_left _ hpos
    omega
  have hr := run_make (P := P) w T (E.ty T).elem inf z hT h1 h3 .i64 kc x x h0 (Int.le_refl _) hbx hx63
  obtain ⟨zv, hzv⟩ : ∃ zv, z.cells = #[zv] := by
    have : z.cells.toList.length = 1 := by rw [← h6.length, hl1, hl3, hsz]
    match hz : z.cells.toList, this with
    | [zv], _ => exact ⟨zv, by rw [← hz]⟩
  have hz0 : ∀ w ok, Rd w ok e e.dflt [zv] := fun w ok => by
    rw [hzv] at h6
    obtain ⟨v1, v2, e1, r1, a1⟩ := take_ok (m := fun _ => .none) (g := ⟨fun _ => ⟨0, .lf⟩, fun _ => False⟩) (h6.mono fun _ _ hz => R1.of0 (hz.rel w ok _ _)) hdz
    cases a1
    rw [List.append_nil] at e1
    simp only at e1
    rw [e1]; exact r1
  have hz1 : e.isSl = true → zv = .slice none 0 0 := fun hs => by
    rw [hzv] at h6
    cases e with
    | sl T1 e1 =>
      match hzz : (E.ty (E.ty T).elem).zero, hdz, h6 with
      | [x1], hdz, h6 =>
        simp only [ET.take, Option.map_eq_some_iff] at hdz
        obtain ⟨y1, hy1, _⟩ := hdz
        cases h6 with
        | cons h8 _ =>
          cases x1 <;> simp only [asE] at hy1 <;> try (cases hy1; done)
          · split at hy1
            · rename_i he1; subst he1; exact h8.elim
            · cases hy1
          · exact h8
      | [], hdz, h6 => cases h6
      | _ :: _ :: _, hdz, h6 => cases h6 with
        | cons _ h8 => cases h8
    | _ => cases hs
  refine ⟨zv, hz0, hz1, by have hpos := hel.pos; have : x.toNat * 1 ≤ x.toNat * (E.ty (E.ty T).elem).bytes := Nat.mul_le_mul_left _ hpos; omega, ?_⟩
  rw [hzv, h4, hsz2, Nat.mul_one] at hr
  simp only [execOp, ho, hL, hC, Sem.run_bind, hr, Result.andThen_ok]; rfl
theorem y_makeSlice {T : Nat} {l c : Operand} (h : SR w0 io E.ntmps S g a w) (hty : TyOK P T (E.ty T)) (hkd : ∃ e, (E.ty T).kind = .sl e) (hel : TyOK P (E.ty T).elem (E.ty (E.ty T).elem)) {o : Oper} (ho : o.op = .makeSlice T l c)
    {x : Int} (hl : S.ev E 0 l = .d (.int .i64) x) (hlc : sameOp l c = true) (h0 : 0 ≤ x) (hfit : fits x.toNat (E.ty (E.ty T).elem).bytes = true) {e : ET} (he : elemE E T = some e) (hsz : e.sz = 1) (hsz2 : (E.ty (E.ty T).elem).sz = 1)
    (hk : κ (.d (.sl (E.ty T).elem e) (List.replicate x.toNat e.dflt)) = some r) : Yields P S g a w o κ r := by
  obtain ⟨zv, hz0, _, hle, hrun⟩ := run_makeSlice h hty hkd hel ho hl hlc h0 hfit he hsz hsz2
  have hmore := More.alloc w (.cells (madeCells #[zv] x.toNat) (E.ty T).elem)
  refine ⟨_, _, _, hk, hmore, ?_, hrun⟩
  refine ⟨some ⟨w.heap.size, 0, none⟩, x.toNat, x.toNat, rfl, List.length_replicate .., Nat.le_refl _, fun i y hi => ?_⟩
  have hlt : i < x.toNat := by have := (List.getElem?_eq_some_iff.1 hi).1; simpa using this
  have hy : y = e.dflt := by rw [List.getElem?_replicate, if_pos hlt] at hi; simpa using hi.symm
  subst hy
  refine ⟨⟨w.heap.size, 0, none⟩, [zv], rfl, ⟨by simp, h.exnew, fun j hj => by have := (h.own j _ hj).1; simp at this⟩, hz0 _ _, fun j u hj => ?_⟩
  match j, hj with
  | 0, hj =>
    simp at hj; subst hj
    rw [add_none, Nat.zero_add, World.cell?_alloc_new, hsz]
    simp [madeCells, hlt, Nat.mod_one]
theorem o_makeSlice {T : Nat} {l c : Operand} (h : SR w0 io E.ntmps S g a w) (hty : TyOK P T (E.ty T)) (hkd : ∃ e, (E.ty T).kind = .sl e) (hel : TyOK P (E.ty T).elem (E.ty (E.ty T).elem)) {o : Oper} (ho : o.op = .makeSlice T l c)
    {x : Int} (hl : S.ev E 0 l = .d (.int .i64) x) (hlc : sameOp l c = true) (h0 : 0 ≤ x) (hfit : fits x.toNat (E.ty (E.ty T).elem).bytes = true) {e : ET} (he : elemE E T = some e) (hsz : e.sz = 1) (hsz2 : (E.ty (E.ty T).elem).sz = 1) (dp : Nat) :
    YieldsOwn P S g a w o (E.ty T).elem e dp (List.replicate x.toNat e.dflt) := by
  obtain ⟨zv, hz0, hz1, hle, hrun⟩ := run_makeSlice h hty hkd hel ho hl hlc h0 hfit he hsz hsz2
  have hm : (madeCells #[zv] x.toNat).toList = List.replicate x.toNat zv := by
    apply List.ext_getElem
    · simp [madeCells]
    · intro i h1 h2; simp [madeCells, Nat.mod_one]
  have hmz : (madeCells #[zv] x.toNat).size = x.toNat := by simp [madeCells]
  generalize hW : w.alloc (.cells (madeCells #[zv] x.toNat) (E.ty T).elem) = W at *
  have hmore : More w W := hW ▸ More.alloc w _
  have hnew : W.heap[w.heap.size]? = some (.cells (madeCells #[zv] x.toNat) (E.ty T).elem (0, 0)) := hW ▸ heap_alloc_new w _
  have hsz' : W.heap.size = w.heap.size + 1 := by rw [← hW]; simp
  have hrow : W.ownsRow 0 (E.ty T).elem 1 (.slice (some ⟨w.heap.size, 0, none⟩) x.toNat x.toNat) x.toNat (List.replicate x.toNat zv) := ⟨by simp, .inr ⟨w.heap.size, x.toNat, _, rfl, Nat.zero_le _, hnew, Nat.le_refl _, by unfold maxLen; omega, by simp [hmz], by rw [hm]; simp⟩⟩
  cases hs : (Nat.beq dp 0 || !e.isSl) with
  | true =>
    have hd : dp = 0 ∨ e.isSl = false := by
      simp only [Bool.or_eq_true, Bool.not_eq_true'] at hs
      exact hs.imp Nat.eq_of_beq_eq_true id
    have hrd : All2 (fun x c => Rd W (okOf w S.m g) e x [c]) (List.replicate x.toNat e.dflt) (List.replicate x.toNat zv) := by
      generalize x.toNat = k
      induction k with
      | zero => exact .nil
      | succ k ih => exact .cons (hz0 _ _) ih
    refine ⟨_, W, _, hrun, hmore, Own.flat (by rw [List.length_replicate]; exact hrow) hrd hd, fun k hk => ?_⟩
    have hk := Tr.flat_blocks hk
    simp only [Value.ownBlock, Option.some.injEq] at hk
    omega
  | false =>
    simp only [Bool.or_eq_false_iff, Bool.not_eq_false'] at hs
    cases e with
    | sl T1 e1 =>
      have hzv := hz1 rfl
      subst hzv
      cases dp with
      | zero => simp at hs
      | succ dp =>
        have hb : ∀ k, k ∈ (Tr.nd (.slice none 0 0) 0 fun _ => .lf).blocks → False := fun k hk => by
          rcases Tr.mem_nd.1 hk with hk | ⟨i, hi, _⟩
          · cases hk
          · omega
        refine ⟨_, W, .nd (.slice (some ⟨w.heap.size, 0, none⟩) x.toNat x.toNat) x.toNat (fun _ => .nd (.slice none 0 0) 0 fun _ => .lf), hrun, hmore, ⟨x.toNat, _, _, rfl, by simp, hrow, fun i y c hi hc => ?_, fun i _ k hk => (hb k hk).elim, fun i j k _ _ hk => (hb k hk).elim⟩, fun k hk => ?_⟩
        · rw [List.getElem?_replicate] at hi hc
          split at hi
          · rename_i hlt
            rw [if_pos hlt] at hc
            injection hi with hi; injection hc with hc
            subst hi; subst hc
            exact ⟨0, fun _ => .lf, [], rfl, rfl, World.ownsRow_nil W 0 T1 1, fun i x c hi => by simp [ET.dflt] at hi, fun i hi => by omega, fun i j k hi => by omega⟩
          · cases hi
        · rcases Tr.mem_nd.1 hk with hk | ⟨i, _, hk⟩
          · simp only [Value.ownBlock, Option.some.injEq] at hk
            omega
          · exact (hb k hk).elim
    | _ => simp [ET.isSl] at hs
/-- The array that a type's zero is. -/
theorem y_buildArr {T : Nat} {parts : Array (Nat × Operand)} (h : SR w0 io E.ntmps S g a w) (hty : TyOK P T (E.ty T)) (har : (E.ty T).isArr = true) (hel : TyOK P (E.ty T).elem (E.ty (E.ty T).elem)) {o : Oper} (ho : o.op = .build T parts) (hp : parts.toList = []) {e : ET} (he : (E.ty (E.ty T).elem).ek = some e) (hsz : (E.ty (E.ty T).elem).sz = 1)
    (hk : κ (.arr e (E.ty T).sz (List.replicate (E.ty T).sz e.dflt)) = some r) : Yields P S g a w o κ r := by
  obtain ⟨n, el, hkd⟩ := isArr_iff.1 har
  have hel' : (E.ty T).elem = el := by simp only [TI.elem, hkd]
  rw [hel'] at hel he hsz
  obtain ⟨hn, z0, vs, hz, hvs, hz0, hz1⟩ := hty.zeroA hkd hel
  obtain ⟨hna, hdz⟩ := hel.dz e he
  have hrd := zero_cell hel hna hz0 hdz hz1
  refine ⟨_, .agg vs, w, hk, More.refl w, ⟨vs, rfl, by simp, ?_⟩, ?_⟩
  · rw [hvs]
    generalize (E.ty T).sz = k
    induction k with
    | zero => exact .nil
    | succ k ih => exact .cons (hrd w _) ih
  · simp only [execOp, ho, Instr.build, Sem.run_bind, hz, Result.andThen_ok, run_underlying (hty.array hkd), hel.size]
    rw [show (parts.map fun p => (p.1, a.eval p.2)).toList = [] by simp [hp]]
    rfl
theorem y_convert {s d : Nat} {x : Operand} (h : SR w0 io E.ntmps S g a w) (hs : TyOK P s (E.ty s)) (hd : TyOK P d (E.ty d)) (hes : ∀ e, (E.ty s).kind = .sl e → TyOK P e (E.ty e)) (hed : ∀ e, (E.ty s).kind = .str → (E.ty d).kind = .sl e → TyOK P e (E.ty e)) {o : Oper} (ho : o.op = .convert s d x)
    (hk : convK E s d (nrm (S.ev E s x)) κ = some r) : Yields P S g a w o κ r := by
  have hX := R3.nrm (ev_ok h s x)
  generalize nrm (S.ev E s x) = X at *
  obtain ⟨us, hus, hks⟩ := hs.kinds
  obtain ⟨ud, hud, hkd⟩ := hd.kinds
  have hek := hd.ek
  have hrun : ∀ V w', (convert s d (a.eval x)).run P w = .ok V w' → (execOp a.eval o).run P w = .ok (.value V) w' := by
    intro V w' hV
    simp [execOp, ho, hV]
  unfold convK at hk
  split at hk
  · rename_i k0 n' k hdk
    obtain ⟨hdk, hek⟩ := hek.of hdk
    simp only at hek
    rw [hek] at hkd; simp only [kindOK] at hkd; subst hkd
    refine ⟨_, .int k (k.wrap n'), w, hk, More.refl w, rfl, hrun _ _ ?_⟩
    simp [convert, run_underlying hus, run_underlying hud, hX.int, Conv.intToInt]
  · rename_i st hdk
    obtain ⟨hdk, hek⟩ := hek.of hdk
    simp only at hek
    rw [hek] at hkd; simp only [kindOK] at hkd; subst hkd
    refine ⟨_, .string st, w, hk, More.refl w, ⟨rfl, hX.str.2⟩, hrun _ _ ?_⟩
    simp [convert, run_underlying hus, run_underlying hud, hX.str.1]
  · rename_i st T hdk
    obtain ⟨hdk, hek⟩ := hek.of hdk
    simp only at hek
    rw [hek] at hkd; simp only [kindOK] at hkd; subst hkd
    split at hk
    · rename_i hss hTT
      rw [hss] at hks; simp only [kindOK] at hks; subst hks
      obtain ⟨uT, huT, hkT⟩ := (hed T hss hek).kinds
      rw [hTT] at hkT; simp only [kindOK] at hkT; subst hkT
      have hr := run_bytes_of_string (P := P) w s d T st hus hud huT
      rw [← hX.str.1] at hr
      have hm : More w (w.drew.alloc (.cells (bytesRow st (grownCap w st.size 0 T)) T ((bytesRow st (grownCap w st.size 0 T)).size, (bytesRow st (grownCap w st.size 0 T)).size + 1))) := (More.drew w).trans (More.alloc _ _)
      have hcell : ∀ (C : Array Value) (t : Nat) (f : Nat × Nat) (i : Nat), (w.drew.alloc (.cells C t f)).cell? ⟨w.heap.size, i, none⟩ = C[i]? ∧ (w.drew.alloc (.cells C t f)).heap.size = w.heap.size + 1 := by
        intro C t f i
        have hh : (w.drew.alloc (.cells C t f)).heap[w.heap.size]? = some (.cells C t f) := by
          show (w.heap.push (.cells C t f))[w.heap.size]? = _
          simp
        refine ⟨by unfold World.cell?; rw [hh]; rfl, ?_⟩
        show (w.heap.push (.cells C t f)).size = _
        simp
      have hbr : ∀ (c i : Nat) (y : Int), (st.data.toList.map fun b => (b.toNat : Int))[i]? = some y → (bytesRow st c)[i]? = some (.int .u8 y) := by
        intro c i y hi
        simp only [List.getElem?_map, Option.map_eq_some_iff] at hi
        obtain ⟨b, hb, rfl⟩ := hi
        have hb' : st.data[i]? = some b := by simpa using hb
        have hlt := (Array.getElem?_eq_some_iff.1 hb').1
        rw [bytesRow, Array.getElem?_append_left (by simpa using hlt)]
        simp [hb']
      generalize hW : w.drew.alloc (.cells (bytesRow st (grownCap w st.size 0 T)) T ((bytesRow st (grownCap w st.size 0 T)).size, (bytesRow st (grownCap w st.size 0 T)).size + 1)) = W at *
      refine ⟨_, _, _, hk, hm, ?_, hrun _ _ hr⟩
      refine ⟨some ⟨w.heap.size, 0, none⟩, st.size, grownCap w st.size 0 T, rfl, (by rw [List.length_map, Array.length_toList]; rfl), grownCap_ge _ _ _ _, fun i y hi => ?_⟩
      · refine ⟨⟨w.heap.size, 0, none⟩, [.int .u8 y], rfl, ⟨by rw [← hW, (hcell _ _ _ 0).2]; exact Nat.lt_succ_self _, h.exnew, fun j hj => by have h9 := (h.own j _ hj).1; exact absurd h9 (Nat.lt_irrefl _)⟩, rfl, fun j u hj => ?_⟩
        match j, hj with
        | 0, hj =>
          simp at hj; subst hj
          simp only [ET.sz, Nat.mul_one, Nat.add_zero]
          rw [add_none, Nat.zero_add, ← hW, (hcell _ _ _ i).1]
          exact hbr _ i y hi
    · simp at hk
  · rename_i T' xs hdk
    obtain ⟨hdk, hek⟩ := hek.of hdk
    simp only at hek
    rw [hek] at hkd; simp only [kindOK] at hkd; subst hkd
    split at hk
    · rename_i el hTT hss
      rcases cond_some hk with ⟨hf, hk⟩ | ⟨_, hk⟩
      · have hel : (E.ty s).elem = el := by simp only [TI.elem, hss]
        rw [hss] at hks; simp only [kindOK] at hks; subst hks
        obtain ⟨uT, huT, hkT⟩ := (hes el hss).kinds
        rw [hel] at hTT
        rw [hTT] at hkT; simp only [kindOK] at hkT; subst hkT
        obtain ⟨A, n', c, hv, hn', _, hc⟩ := hX
        simp only [List.cons.injEq, and_true] at hv
        have hfit := Nat.le_of_ble_eq_true hf
        refine ⟨_, .string (strOf xs), w, hk, More.refl w, ⟨rfl, by simp only [strOf, ByteArray.size, List.size_toArray, List.length_map]; unfold maxLen; omega⟩, hrun _ _ ?_⟩
        rw [hv]
        cases A with
        | none =>
          have : xs = [] := by
            cases hxs : xs with
            | nil => rfl
            | cons y ys => obtain ⟨ad, _, h1, _⟩ := hc 0 y (by rw [hxs]; rfl); cases h1
          rw [run_convert_bytes_nil w s el hus huT n' c d hud, this]
          rfl
        | some ad =>
          have hcell : ∀ j v, (xs.map (Value.int .u8))[j]? = some v → w.cell? (ad.add j) = some v := by
            intro j v hj
            simp only [List.getElem?_map, Option.map_eq_some_iff] at hj
            obtain ⟨y, hy, rfl⟩ := hj
            obtain ⟨ad', vs, h1, h2, h3, h4⟩ := hc j y hy
            simp only [Option.some.injEq] at h1; subst h1
            have h3 : vs = [.int .u8 y] := h3
            have := h4 0 (.int .u8 y) (by rw [h3]; rfl)
            simpa [ET.sz] using this
          have hl := run_loadCells_list (P := P) (w := w) ad (xs.map (Value.int .u8)) hcell
          rw [List.length_map, hn'] at hl
          rw [run_convert_bytes_string w s d el (some ad) n' c hus huT hud, run_bytesToString w ad n' c xs (by simpa using hl), foldl_push_bytes]
          simp [strOf, ByteArray.empty, ByteArray.emptyWithCapacity]
          rfl
      · simp at hk
    · simp at hk
  · simp at hk
end
end Go.Proofs.Ytckieogkaodkdaa.V
