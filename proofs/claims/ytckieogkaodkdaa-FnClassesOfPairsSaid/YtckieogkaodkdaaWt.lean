/- Loops in plain Lean: what comes out of them. -/
import Derived.Test.YtckieogkaodkdaaWq
import Derived.IntWalk
set_option linter.unusedVariables false
namespace Go.Proofs.Ytckieogkaodkdaa.V
open Go

section
variable {X A : Type} {B : X → Option (X ⊕ A)}
theorem iterN_more {n : Nat} : ∀ {x : X} {a : A}, iterN B n x = some a → ∀ k, iterN B (n + k) x = some a := by
  induction n with
  | zero => intro x a h; cases h
  | succ n ih =>
    intro x a h k
    rw [Nat.add_right_comm]
    simp only [iterN] at h ⊢
    split at h
    · exact ih h k
    · exact h
    · cases h
theorem iterN_one {n m : Nat} {x : X} {a b : A} (h : iterN B n x = some a) (k : iterN B m x = some b) : a = b := by
  have h1 := iterN_more h m
  have h2 := iterN_more k n
  rw [Nat.add_comm m n, h1] at h2
  exact Option.some.inj h2
theorem Loop_eq {n : Nat} {x : X} {a : A} (h : iterN B n x = some a) : Loop B x = some a := by
  unfold Loop
  split
  · rename_i hh
    obtain ⟨b, hb⟩ := hh.choose_spec
    rw [hb, iterN_one h hb]
  · rename_i hh
    exact absurd ⟨n, a, h⟩ hh
/-- A loop that keeps I and brings μ down ends with Q. -/
theorem Loop_of (I : X → Prop) (μ : X → Nat) (Q : A → Prop) (h : ∀ x, I x → (∃ y, B x = some (.inl y) ∧ I y ∧ μ y < μ x) ∨ ∃ a, B x = some (.inr a) ∧ Q a) : ∀ x, I x → ∃ a, Loop B x = some a ∧ Q a := by
  have key : ∀ k x, μ x < k → I x → ∃ a, iterN B k x = some a ∧ Q a := by
    intro k
    induction k with
    | zero => intro x hk; omega
    | succ k ih =>
      intro x hk hx
      rcases h x hx with ⟨y, h1, h2, h3⟩ | ⟨a, h1, h2⟩
      · obtain ⟨a, h4, h5⟩ := ih y (by omega) h2
        exact ⟨a, by simp only [iterN, h1]; exact h4, h5⟩
      · exact ⟨a, by simp only [iterN, h1], h2⟩
  intro x hx
  obtain ⟨a, h1, h2⟩ := key _ x (Nat.lt_succ_self _) hx
  exact ⟨a, Loop_eq h1, h2⟩
/-- A loop that goes through f 0, f 1, .., f n, and then out. -/
theorem Loop_count (f : Nat → X) (a : A) (n : Nat) (hs : ∀ i, i < n → B (f i) = some (.inl (f (i + 1)))) (he : B (f n) = some (.inr a)) : Loop B (f 0) = some a := by
  have key : ∀ k i, i + k = n → iterN B (k + 1) (f i) = some a := by
    intro k
    induction k with
    | zero => intro i hi; have : i = n := by omega
              subst this; simp only [iterN, he]
    | succ k ih => intro i hi; rw [iterN, hs i (by omega)]; exact ih (i + 1) (by omega)
  exact Loop_eq (key n 0 (by omega))
end
theorem w64 {n : Int} (h1 : -9223372036854775808 ≤ n) (h2 : n ≤ 9223372036854775807) : IntKind.wrap .i64 n = n := IntWalk.i64_in n ⟨h1, h2⟩
theorem bif_pos {α : Type} {b : Bool} {x y : α} (h : b = true) : (bif b then x else y) = x := by rw [h]; rfl
theorem bif_neg {α : Type} {b : Bool} {x y : α} (h : b = false) : (bif b then x else y) = y := by rw [h]; rfl
theorem fits_ok {n b : Nat} (h : n * b ≤ 140737488355328) : fits n b = true := Nat.ble_eq_true_of_le h
end Go.Proofs.Ytckieogkaodkdaa.V
