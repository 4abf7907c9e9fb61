/- The plain law of the pairs: the factors for one more. -/
import Derived.Test.YtckieogkaodkdaaP3b
set_option linter.unusedVariables false
set_option linter.unusedSimpArgs false
namespace Go.Proofs.Ytckieogkaodkdaa.V
open Go

/-! ### the factor of a pair -/
def quo (x y c : Int) : Int := (x * x + y * y + c).tdiv (x * y)
def goodQ (x y c : Int) : Bool := decide (1 ≤ quo x y c ∧ quo x y c ≤ 1000 ∧ x * x + y * y + c = quo x y c * x * y)
theorem small3 {x y c : Int} (hy : 1 ≤ y) (hyx : y ≤ x) (hx : x ≤ 1000000) (c1 : -1000 ≤ c) (c2 : c ≤ 1000) :
    IntKind.wrap .i64 (x * x) = x * x ∧ IntKind.wrap .i64 (y * y) = y * y ∧ IntKind.wrap .i64 (x * x + y * y) = x * x + y * y ∧ IntKind.wrap .i64 (x * x + y * y + c) = x * x + y * y + c ∧ IntKind.wrap .i64 (x * y) = x * y ∧ x * y ≠ 0 ∧ IntKind.wrap .i64 (quo x y c) = quo x y c := by
  have hx0 : 0 ≤ x := by omega
  have a1 : 0 ≤ x * x := Int.mul_nonneg hx0 hx0
  have a2 : x * x ≤ 1000000 * 1000000 := Int.mul_le_mul hx hx hx0 (by decide)
  have b1 : 0 ≤ y * y := Int.mul_nonneg (by omega) (by omega)
  have b2 : y * y ≤ 1000000 * 1000000 := Int.mul_le_mul (Int.le_trans hyx hx) (Int.le_trans hyx hx) (by omega) (by decide)
  have d1 : 0 < x * y := Int.mul_pos (by omega) (by omega)
  have d2 : x * y ≤ 1000000 * 1000000 := Int.mul_le_mul hx (Int.le_trans hyx hx) (by omega) (by decide)
  have hq : (quo x y c).natAbs ≤ (x * x + y * y + c).natAbs := Int.natAbs_tdiv_le_natAbs ..
  refine ⟨w64 ?_ ?_, w64 ?_ ?_, w64 ?_ ?_, w64 ?_ ?_, w64 ?_ ?_, by omega, w64 ?_ ?_⟩ <;> omega
theorem quo_iff {x y c : Int} (h : x * y ≠ 0) : (x * x + y * y + c).tmod (x * y) = 0 ↔ x * x + y * y + c = quo x y c * x * y := by
  have e := Int.mul_tdiv_add_tmod (x * x + y * y + c) (x * y)
  have e2 : quo x y c * x * y = x * y * (x * x + y * y + c).tdiv (x * y) := by unfold quo; rw [Int.mul_assoc, Int.mul_comm]
  rw [e2]
  omega
theorem F170_eq {x y c : Int} (hy : 1 ≤ y) (hyx : y ≤ x) (hx : x ≤ 1000000) (c1 : -1000 ≤ c) (c2 : c ≤ 1000) : F170 x y c = some (bif goodQ x y c then (quo x y c, true, ()) else (0, false, ()), (), ()) := by
  obtain ⟨e1, e2, e3, e4, e5, e6, e7⟩ := small3 hy hyx hx c1 c2
  unfold F170
  have e8 : IntKind.wrap .i64 ((x * x + y * y + c).tdiv (x * y)) = quo x y c := e7
  simp only [e1, e2, e3, e4, e5, e8, decide_eq_false e6, cond_false, F169_eq, Option.bind_some]
  unfold goodQ
  by_cases h : x * x + y * y + c = quo x y c * x * y
  · have h0 : ((x * x + y * y + c).tmod (x * y) != 0) = false := by rw [(quo_iff e6).2 h]; rfl
    rw [h0]
    by_cases h1 : 1 ≤ quo x y c ∧ quo x y c ≤ 1000
    · have : 1 ≤ quo x y c ∧ quo x y c ≤ 1000 ∧ x * x + y * y + c = quo x y c * x * y := ⟨h1.1, h1.2, h⟩
      rw [decide_eq_true h1, decide_eq_true this]; rfl
    · have : ¬ (1 ≤ quo x y c ∧ quo x y c ≤ 1000 ∧ x * x + y * y + c = quo x y c * x * y) := fun hh => h1 ⟨hh.1, hh.2.1⟩
      rw [decide_eq_false h1, decide_eq_false this]; rfl
  · have h0 : ((x * x + y * y + c).tmod (x * y) != 0) = true := by rw [bne_iff_ne]; exact fun hh => h ((quo_iff e6).1 hh)
    have : ¬ (1 ≤ quo x y c ∧ quo x y c ≤ 1000 ∧ x * x + y * y + c = quo x y c * x * y) := fun hh => h hh.2.2
    rw [h0, decide_eq_false this]; rfl
theorem F29_eq {x y c : Int} (hy : 1 ≤ y) (hyx : y ≤ x) (hx : x ≤ 1000000) (c1 : -1000 ≤ c) (c2 : c ≤ 1000) : F29 x y c = some (bif goodQ x y c then (quo x y c, true, ()) else (0, false, ()), (), ()) := by
  obtain ⟨e1, e2, e3, e4, e5, e6, e7⟩ := small3 hy hyx hx c1 c2
  have e8 : IntKind.wrap .i64 ((x * x + y * y + c).tdiv (x * y)) = quo x y c := e7
  have g1 : 1 ≤ x ∧ x ≤ 1000000 := by omega
  have g2 : 1 ≤ y ∧ y ≤ x := ⟨hy, hyx⟩
  unfold F29
  simp only [F173_eq, F174_eq, Option.bind_some, g1, g2, c1, c2, and_self, decide_true, Bool.not_true, cond_false, e1, e2, e3, e4, e5, e8, decide_eq_false e6]
  unfold goodQ
  by_cases h1 : 1 ≤ quo x y c ∧ quo x y c ≤ 1000
  · have hk : okKC (quo x y c) c = true := okKC_iff.2 ⟨h1.1, h1.2, c1, c2⟩
    simp only [hk, Bool.not_true, cond_false, F175_eq hk, Option.bind_some]
    by_cases h : x * x + y * y + c = quo x y c * x * y
    · have hp : pairB (quo x y c) c x y = true := pairB_iff.2 ⟨by omega, hyx, hx, h⟩
      have : 1 ≤ quo x y c ∧ quo x y c ≤ 1000 ∧ x * x + y * y + c = quo x y c * x * y := ⟨h1.1, h1.2, h⟩
      rw [hp, decide_eq_true this]; rfl
    · have hp : pairB (quo x y c) c x y = false := by rw [Bool.eq_false_iff]; exact fun hh => h (pairB_iff.1 hh).2.2.2
      have : ¬ (1 ≤ quo x y c ∧ quo x y c ≤ 1000 ∧ x * x + y * y + c = quo x y c * x * y) := fun hh => h hh.2.2
      rw [hp, decide_eq_false this]; rfl
  · have hk : okKC (quo x y c) c = false := by rw [Bool.eq_false_iff]; exact fun hh => h1 ⟨(okKC_iff.1 hh).1, (okKC_iff.1 hh).2.1⟩
    have : ¬ (1 ≤ quo x y c ∧ quo x y c ≤ 1000 ∧ x * x + y * y + c = quo x y c * x * y) := fun hh => h1 ⟨hh.1, hh.2.1⟩
    rw [hk, decide_eq_false this]; rfl

/-! ### the list of what is marked -/
def sel1 (h : List Bool) (a : Nat) : List Int := bif h.getD a false then [(a : Int)] else []
def selB (h : List Bool) (a : Nat) : Nat → List Int
  | 0 => []
  | n + 1 => selB h a n ++ sel1 h (a + n)
theorem selB_len (h : List Bool) (a : Nat) : ∀ n, (selB h a n).length ≤ n
  | 0 => Nat.le_refl _
  | n + 1 => by
    have := selB_len h a n
    simp only [selB, sel1, List.length_append]
    cases h.getD (a + n) false <;> simp <;> omega
theorem selB_add (h : List Bool) (a n : Nat) : ∀ m, selB h a (n + m) = selB h a n ++ selB h (a + n) m
  | 0 => by simp [selB]
  | m + 1 => by
    rw [← Nat.add_assoc, selB, selB_add h a n m, selB, List.append_assoc, Nat.add_assoc]
theorem selB_mem {h : List Bool} {a : Nat} {z : Int} : ∀ {n : Nat}, z ∈ selB h a n → ∃ k : Nat, z = (k : Int) ∧ a ≤ k ∧ k < a + n ∧ h.getD k false = true
  | 0, hz => by cases hz
  | n + 1, hz => by
    simp only [selB, List.mem_append] at hz
    rcases hz with hz | hz
    · obtain ⟨k, h1, h2, h3, h4⟩ := selB_mem hz
      exact ⟨k, h1, h2, by omega, h4⟩
    · unfold sel1 at hz
      cases hb : h.getD (a + n) false with
      | false => rw [hb] at hz; cases hz
      | true =>
        rw [hb] at hz
        exact ⟨a + n, List.mem_singleton.1 hz, by omega, by omega, hb⟩
theorem getD_set_ne {h : List Bool} {k j : Nat} (hne : j ≠ k) : (h.set k true).getD j false = h.getD j false := by
  simp only [List.getD_eq_getElem?_getD, List.getElem?_set]
  rw [if_neg (Ne.symm hne)]
theorem getD_set_self {h : List Bool} {k : Nat} (hk : k < h.length) : (h.set k true).getD k false = true := by
  simp only [List.getD_eq_getElem?_getD, List.getElem?_set]
  simp [hk]
theorem selB_set {h : List Bool} {k a : Nat} : ∀ {n : Nat}, (k < a ∨ a + n ≤ k) → selB (h.set k true) a n = selB h a n
  | 0, _ => rfl
  | n + 1, hk => by
    simp only [selB, sel1]
    rw [selB_set (n := n) (by omega), getD_set_ne (by omega)]
theorem set_same' {h : List Bool} {k : Nat} (hk : h.getD k false = true) : h.set k true = h := by
  apply List.ext_getElem?
  intro i
  rw [List.getElem?_set]
  by_cases e : k = i
  · subst e
    have hlt : k < h.length := Nat.lt_of_not_le fun hge => by simp [List.getD, List.getElem?_eq_none hge] at hk
    have : h[k]? = some true := by
      rw [List.getElem?_eq_getElem hlt]
      rw [getD_lt hlt] at hk
      rw [hk]
    rw [if_pos rfl, if_pos hlt, this]
  · simp [e]
/-- A number put into a list in order. -/
def putAt (A : List Int) (k : Int) : List Int → List Int
  | [] => A ++ [k]
  | z :: B => bif z == k then A ++ z :: B else A ++ [k] ++ z :: B
theorem put_eq (A B : List Int) (k : Int) (hA : ∀ z ∈ A, z < k) (hB : ∀ z B', B = z :: B' → k ≤ z) (hl : A.length + B.length ≤ 100000) : F171 (A ++ B) k = some (putAt A k B, (), ()) := by
  unfold F171
  have hloop : Loop B171_2 ((A ++ B, k, 0, ()), ()) = some ((A ++ B, k, (A.length : Int), ()), ()) := by
    have h := Loop_count (B := B171_2) (fun i => ((A ++ B, k, (i : Int), ()), ())) ((A ++ B, k, (A.length : Int), ()), ()) A.length (fun i hi => ?_) ?_
    · exact h
    · have hin : i < (A ++ B).length := by simp; omega
      have hw : IntKind.wrap .i64 ((i : Int) + 1) = ((i + 1 : Nat) : Int) := by rw [w64 (by omega) (by omega)]; omega
      have hg : (A ++ B).getD i 0 < k := by
        rw [getD_lt hin, List.getElem_append_left hi]
        exact hA _ (List.getElem_mem hi)
      unfold B171_2
      simp only [in_hi hin, in_lo, cond_true, Int.toNat_natCast, decide_eq_true hg, hw]
    · unfold B171_2
      cases B with
      | nil => simp
      | cons z B' =>
        have hin : A.length < (A ++ z :: B').length := by simp
        have hg : ¬ (A ++ z :: B').getD A.length 0 < k := by
          rw [getD_lt hin, List.getElem_append_right (Nat.le_refl _)]
          have := hB z B' rfl
          simp; omega
        simp only [in_hi hin, in_lo, cond_true, Int.toNat_natCast, decide_eq_false hg, cond_false]
  simp only [hloop, Option.bind_some]
  have htake : (A ++ B).take A.length = A := by simp
  have hdrop : (A ++ B).drop A.length = B := by simp
  have hb1 : decide ((A.length : Int) < (((A ++ B).length + 1 : Nat) : Int)) = true := in_hi (by simp; omega)
  have f1 : fits (([] : List Int).length + A.length) 8 = true := fits_ok (by simp; omega)
  have f2 : fits (([] ++ A : List Int).length + [k].length) 8 = true := fits_ok (by simp; omega)
  have f3 : fits (([] ++ A ++ [k] : List Int).length + B.length) 8 = true := fits_ok (by simp; omega)
  cases B with
  | nil =>
    have h0 : decide ((A.length : Int) < ((A ++ ([] : List Int)).length : Int)) = false := decide_eq_false (by simp)
    simp only [h0, cond_false, in_lo, cond_true, hb1, Int.toNat_natCast, htake, hdrop, f1, f2, f3, putAt]
    simp
  | cons z B' =>
    have hin : A.length < (A ++ z :: B').length := by simp
    have hg : (A ++ z :: B').getD A.length 0 = z := by rw [getD_lt hin, List.getElem_append_right (Nat.le_refl _)]; simp
    simp only [in_hi hin, in_lo, cond_true, hb1, Int.toNat_natCast, htake, hdrop, f1, f2, f3, hg]
    cases hz : (z == k) <;> simp [putAt, hz]
def listOf (h : List Bool) : List Int := selB h 0 1001
theorem F171_eq {h : List Bool} (hl : h.length = 1001) {k : Nat} (hk : k ≤ 1000) : F171 (listOf h) (k : Int) = some (listOf (h.set k true), (), ()) := by
  have hsplit : ∀ h : List Bool, listOf h = selB h 0 k ++ (sel1 h k ++ selB h (k + 1) (1000 - k)) := fun h => by
    unfold listOf
    have e : 1001 = k + (1 + (1000 - k)) := by omega
    rw [e, selB_add, selB_add]
    simp only [Nat.zero_add]
    congr 1
  have hA : ∀ z ∈ selB h 0 k, z < (k : Int) := fun z hz => by
    obtain ⟨j, rfl, _, h2, _⟩ := selB_mem hz; omega
  have hC : ∀ z ∈ selB h (k + 1) (1000 - k), (k : Int) < z := fun z hz => by
    obtain ⟨j, rfl, h1, _, _⟩ := selB_mem hz; omega
  have l1 := selB_len h 0 k
  have l2 := selB_len h (k + 1) (1000 - k)
  have s1 : selB (h.set k true) 0 k = selB h 0 k := selB_set (by omega)
  have s2 : selB (h.set k true) (k + 1) (1000 - k) = selB h (k + 1) (1000 - k) := selB_set (by omega)
  have s3 : sel1 (h.set k true) k = [(k : Int)] := by unfold sel1; rw [getD_set_self (by omega)]; rfl
  rw [hsplit h, hsplit (h.set k true), s1, s2, s3]
  cases hb : h.getD k false with
  | true =>
    have e1 : sel1 h k = [(k : Int)] := by unfold sel1; rw [hb]; rfl
    rw [e1, put_eq _ _ _ hA (fun z B' e => by simp at e; omega) (by simp; omega)]
    simp [putAt]
  | false =>
    have e1 : sel1 h k = [] := by unfold sel1; rw [hb]; rfl
    rw [e1, List.nil_append, put_eq _ _ _ hA (fun z B' e => by have := hC z (by rw [e]; exact List.mem_cons_self ..); omega) (by omega)]
    generalize selB h (k + 1) (1000 - k) = R at hC
    cases R with
    | nil => simp [putAt]
    | cons z B' =>
      have := hC z (List.mem_cons_self ..)
      have hne : (z == (k : Int)) = false := by simp; omega
      simp [putAt, hne]
end Go.Proofs.Ytckieogkaodkdaa.V
