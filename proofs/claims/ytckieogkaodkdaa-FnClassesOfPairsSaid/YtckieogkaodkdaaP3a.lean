/- The plain law of the pairs: the loops through all pairs. -/
import Derived.Test.YtckieogkaodkdaaT3
import Derived.Test.YtckieogkaodkdaaWt
set_option linter.unusedVariables false
set_option linter.unusedSimpArgs false
namespace Go.Proofs.Ytckieogkaodkdaa.V
open Go

def okKC (k c : Int) : Bool := decide (1 ≤ k ∧ k ≤ 1000 ∧ -1000 ≤ c ∧ c ≤ 1000)
theorem okKC_iff {k c : Int} : okKC k c = true ↔ 1 ≤ k ∧ k ≤ 1000 ∧ -1000 ≤ c ∧ c ≤ 1000 := decide_eq_true_iff
def pairB (k c x y : Int) : Bool := decide (0 ≤ y ∧ y ≤ x ∧ x ≤ 1000000 ∧ x * x + y * y + c = k * x * y)
theorem pairB_iff {k c x y : Int} : pairB k c x y = true ↔ 0 ≤ y ∧ y ≤ x ∧ x ≤ 1000000 ∧ x * x + y * y + c = k * x * y := decide_eq_true_iff
theorem in_eq (a b c : Int) : (if decide (a ≥ b) = true then some (decide (a ≤ c), ((), (), ())) else some (false, ((), (), ()))) = some (decide (b ≤ a ∧ a ≤ c), ((), (), ())) := by
  by_cases h1 : b ≤ a <;> by_cases h2 : a ≤ c <;> simp [h1, h2]
theorem F169_eq (a b c : Int) : F169 a b c = some (decide (b ≤ a ∧ a ≤ c), (), ()) := by
  unfold F169
  by_cases h1 : b ≤ a <;> by_cases h2 : a ≤ c <;> simp [h1, h2]
theorem F173_eq (a b c : Int) : F173 a b c = some (decide (b ≤ a ∧ a ≤ c), (), ()) := by
  unfold F173
  by_cases h1 : b ≤ a <;> by_cases h2 : a ≤ c <;> simp [h1, h2]
theorem F290_eq (k c : Int) : F290 k c = some (okKC k c, (), ()) := by
  unfold F290 okKC
  simp only [F169_eq, Option.bind_some]
  by_cases h1 : 1 ≤ k ∧ k ≤ 1000 <;> by_cases h2 : -1000 ≤ c ∧ c ≤ 1000 <;> simp [h1, h2] <;> omega
theorem F174_eq (k c : Int) : F174 k c = some (okKC k c, (), ()) := by
  unfold F174 okKC
  simp only [F173_eq, Option.bind_some]
  by_cases h1 : 1 ≤ k ∧ k ≤ 1000 <;> by_cases h2 : -1000 ≤ c ∧ c ≤ 1000 <;> simp [h1, h2] <;> omega
/-- No number in the equation is too great. -/
theorem small {k c x y : Int} (hkc : okKC k c = true) (hy : 0 ≤ y) (hyx : y ≤ x) (hx : x ≤ 1000000) :
    IntKind.wrap .i64 (x * x) = x * x ∧ IntKind.wrap .i64 (y * y) = y * y ∧ IntKind.wrap .i64 (x * x + y * y) = x * x + y * y ∧ IntKind.wrap .i64 (x * x + y * y + c) = x * x + y * y + c ∧ IntKind.wrap .i64 (k * x) = k * x ∧ IntKind.wrap .i64 (k * x * y) = k * x * y := by
  obtain ⟨k1, k2, c1, c2⟩ := okKC_iff.1 hkc
  have hx0 : 0 ≤ x := Int.le_trans hy hyx
  have a1 : 0 ≤ x * x := Int.mul_nonneg hx0 hx0
  have a2 : x * x ≤ 1000000 * 1000000 := Int.mul_le_mul hx hx hx0 (by decide)
  have b1 : 0 ≤ y * y := Int.mul_nonneg hy hy
  have b2 : y * y ≤ 1000000 * 1000000 := Int.mul_le_mul (Int.le_trans hyx hx) (Int.le_trans hyx hx) hy (by decide)
  have d1 : 0 ≤ k * x := Int.mul_nonneg (by omega) hx0
  have d2 : k * x ≤ 1000 * 1000000 := Int.mul_le_mul k2 hx hx0 (by decide)
  have e1 : 0 ≤ k * x * y := Int.mul_nonneg d1 hy
  have e2 : k * x * y ≤ 1000 * 1000000 * 1000000 := Int.mul_le_mul d2 (Int.le_trans hyx hx) hy (by decide)
  refine ⟨w64 ?_ ?_, w64 ?_ ?_, w64 ?_ ?_, w64 ?_ ?_, w64 ?_ ?_, w64 ?_ ?_⟩ <;> omega
theorem F291_eq {k c : Int} (hkc : okKC k c = true) (x y : Int) : F291 x y k c = some (pairB k c x y, (), ()) := by
  unfold F291 pairB
  simp only [F169_eq, Option.bind_some]
  by_cases h1 : 0 ≤ y ∧ y ≤ 1000000
  · by_cases h2 : y ≤ x ∧ x ≤ 1000000
    · obtain ⟨e1, e2, e3, e4, e5, e6⟩ := small hkc h1.1 h2.1 h2.2
      simp only [h1, h2, e1, e2, e3, e4, e5, e6, and_self, decide_true, cond_true, true_and]
      by_cases h3 : x * x + y * y + c = k * x * y <;> simp [h3]
    · have : ¬ (0 ≤ y ∧ y ≤ x ∧ x ≤ 1000000 ∧ x * x + y * y + c = k * x * y) := fun h => h2 ⟨h.2.1, h.2.2.1⟩
      rw [decide_eq_false this]
      simp [h1, h2]
  · have : ¬ (0 ≤ y ∧ y ≤ x ∧ x ≤ 1000000 ∧ x * x + y * y + c = k * x * y) := fun h => h1 ⟨h.1, by omega⟩
    simp [h1, this]
theorem F175_eq {k c : Int} (hkc : okKC k c = true) (x y : Int) : F175 x y k c = some (pairB k c x y, (), ()) := by
  unfold F175 pairB
  simp only [F173_eq, Option.bind_some]
  by_cases h1 : 0 ≤ x ∧ x ≤ 1000000
  · by_cases h2 : 0 ≤ y ∧ y ≤ x
    · obtain ⟨e1, e2, e3, e4, e5, e6⟩ := small hkc h2.1 h2.2 h1.2
      simp only [h1, h2, e1, e2, e3, e4, e5, e6, and_self, decide_true, cond_true, true_and]
      by_cases h3 : x * x + y * y + c = k * x * y <;> simp [h3]
    · have : ¬ (0 ≤ y ∧ y ≤ x ∧ x ≤ 1000000 ∧ x * x + y * y + c = k * x * y) := fun h => h2 ⟨h.1, h.2.1⟩
      rw [decide_eq_false this]
      simp [h1, h2]
  · have : ¬ (0 ≤ y ∧ y ≤ x ∧ x ≤ 1000000 ∧ x * x + y * y + c = k * x * y) := fun h => h1 ⟨by omega, h.2.2.1⟩
    simp [h1, this]

/-! ### all pairs up to a bound, the least first -/
def rowL (p : Int → Int → Bool) (x : Int) : Nat → List (List Int)
  | 0 => []
  | n + 1 => rowL p x n ++ (bif p x (n : Int) then [[x, (n : Int)]] else [])
def allL (p : Int → Int → Bool) : Nat → List (List Int)
  | 0 => []
  | n + 1 => allL p n ++ rowL p (n : Int) (n + 1)
theorem rowL_len (p : Int → Int → Bool) (x : Int) : ∀ n, (rowL p x n).length ≤ n
  | 0 => Nat.le_refl _
  | n + 1 => by
    have := rowL_len p x n
    simp only [rowL, List.length_append]
    cases p x (n : Int) <;> simp <;> omega
theorem allL_len (p : Int → Int → Bool) : ∀ n, n ≤ 201 → (allL p n).length ≤ n * 201
  | 0, _ => Nat.le_refl _
  | n + 1, h => by
    have h1 := allL_len p n (by omega)
    have h2 := rowL_len p (n : Int) (n + 1)
    simp only [allL, List.length_append]
    omega
theorem L163_8 {k c : Int} (hkc : okKC k c = true) (m : Int) (x : Nat) (hx : x ≤ 200) (acc : List (List Int)) (hacc : acc.length ≤ 100000) :
    Loop B163_8 ((k, c, (), (), (x : Int), m, (x : Int), (x : Int) + 1, 0, ()), (acc, ())) = some ((k, c, (), (), m, (x : Int), ()), (acc ++ rowL (pairB k c) x (x + 1), ())) := by
  have h := Loop_count (B := B163_8) (fun i => ((k, c, (), (), (x : Int), m, (x : Int), (x : Int) + 1, (i : Int), ()), (acc ++ rowL (pairB k c) x i, ()))) ((k, c, (), (), m, (x : Int), ()), (acc ++ rowL (pairB k c) x (x + 1), ())) (x + 1) (fun i hi => ?_) ?_
  · simpa [rowL] using h
  · have hl := rowL_len (pairB k c) x i
    have hlt : (i : Int) < (x : Int) + 1 := by omega
    have hw : IntKind.wrap .i64 ((i : Int) + 1) = (i : Int) + 1 := w64 (by omega) (by omega)
    have hf : fits ((acc ++ rowL (pairB k c) x i).length + [[(x : Int), (i : Int)]].length) 24 = true := fits_ok (by simp only [List.length_append, List.length_singleton]; omega)
    unfold B163_8
    simp only [decide_eq_true hlt, cond_true, F291_eq hkc, Option.bind_some, F164, hw, hf]
    cases hp : pairB k c x i <;> simp [rowL, hp]
  · have hlt : ¬ (((x + 1 : Nat) : Int) < (x : Int) + 1) := by omega
    unfold B163_8
    simp only [decide_eq_false hlt, cond_false]
theorem L163_5 {k c : Int} (hkc : okKC k c = true) (n : Nat) (hn : n ≤ 201) :
    Loop B163_5 ((k, c, (), (), (n : Int), 0, ()), (([] : List (List Int)), ())) = some (((), ()), (allL (pairB k c) n, ())) := by
  have h := Loop_count (B := B163_5) (fun i => ((k, c, (), (), (n : Int), (i : Int), ()), (allL (pairB k c) i, ()))) (((), ()), (allL (pairB k c) n, ())) n (fun i hi => ?_) ?_
  · simpa [allL] using h
  · have hl := allL_len (pairB k c) i (by omega)
    have hlt : (i : Int) < (n : Int) := by omega
    have hw : IntKind.wrap .i64 ((i : Int) + 1) = (i : Int) + 1 := w64 (by omega) (by omega)
    unfold B163_5
    simp only [decide_eq_true hlt, cond_true, hw, L163_8 hkc (n : Int) i (by omega) (allL (pairB k c) i) (by omega), Option.bind_some]
    simp [allL]
  · unfold B163_5
    simp
def okMost (m : Int) : Bool := decide (0 ≤ m ∧ m ≤ 200)
/-- All pairs, as both tell them: those of p up to a bound. -/
def told (p : Int → Int → Bool) (k c m : Int) : List (List Int) × Bool :=
  bif okKC k c && okMost m then (bif decide (((allL p (m.toNat + 1)).length : Int) > 1000) then ([], false) else (allL p (m.toNat + 1), true)) else ([], false)
theorem F163_eq (k c m : Int) : F163 k c m = some (((), (told (pairB k c) k c m).2, ()), (), ((told (pairB k c) k c m).1, ())) := by
  unfold F163 told okMost
  simp only [F290_eq, F169_eq, Option.bind_some]
  cases hkc : okKC k c
  · rfl
  · by_cases hm : 0 ≤ m ∧ m ≤ 200
    · obtain ⟨n, rfl⟩ := Int.eq_ofNat_of_zero_le hm.1
      have hw : IntKind.wrap .i64 ((n : Int) + 1) = ((n + 1 : Nat) : Int) := by rw [w64 (by omega) (by omega)]; omega
      simp only [hm, and_self, decide_true, Bool.not_true, cond_false, cond_true, Bool.and_self, hw, L163_5 hkc (n + 1) (by omega), Option.bind_some, Int.toNat_natCast]
      by_cases hg : ((allL (pairB k c) (n + 1)).length : Int) > 1000 <;> simp [hg]
    · rw [decide_eq_false hm]; rfl
theorem F18_eq (k c m : Int) : F18 k c m = some (((told (pairB k c) k c m).1, (told (pairB k c) k c m).2, ()), (), ()) := by
  unfold F18
  simp only [F163_eq, Option.bind_some]

/-! ### jumps down -/
def downB (k x y : Int) : Bool := decide (0 ≤ k * y - x ∧ k * y - x < x)
def leastB (k c x y : Int) : Bool := pairB k c x y && !(downB k x y)
theorem small2 {k x y : Int} (k1 : 1 ≤ k) (k2 : k ≤ 1000) (hy : 0 ≤ y) (hyx : y ≤ x) (hx : x ≤ 1000000) : IntKind.wrap .i64 (k * y) = k * y ∧ IntKind.wrap .i64 (k * y - x) = k * y - x ∧ IntKind.wrap .i64 (x - 1) = x - 1 := by
  have d1 : 0 ≤ k * y := Int.mul_nonneg (by omega) hy
  have d2 : k * y ≤ 1000 * 1000000 := Int.mul_le_mul k2 (Int.le_trans hyx hx) hy (by decide)
  refine ⟨w64 ?_ ?_, w64 ?_ ?_, w64 ?_ ?_⟩ <;> omega
theorem F168_eq {k x y : Int} (k1 : 1 ≤ k) (k2 : k ≤ 1000) (hy : 0 ≤ y) (hyx : y ≤ x) (hx : x ≤ 1000000) :
    F168 x y k = some (bif downB k x y then ((if k * y - x < y then y else k * y - x), (if y < k * y - x then y else k * y - x), true, ()) else (0, 0, false, ()), (), ()) := by
  obtain ⟨e1, e2, _⟩ := small2 k1 k2 hy hyx hx
  unfold F168 downB
  simp only [e1, e2]
  by_cases h1 : k * y - x < 0
  · have : ¬ (0 ≤ k * y - x ∧ k * y - x < x) := by omega
    rw [decide_eq_false this, decide_eq_true h1]; rfl
  · by_cases h2 : k * y - x ≥ x
    · have : ¬ (0 ≤ k * y - x ∧ k * y - x < x) := by omega
      rw [decide_eq_false this, decide_eq_false h1, decide_eq_true h2]; rfl
    · have : 0 ≤ k * y - x ∧ k * y - x < x := by omega
      rw [decide_eq_true this, decide_eq_false h1, decide_eq_false h2]
      simp only [cond_false, cond_true]
      by_cases h3 : k * y - x < y <;> by_cases h4 : y < k * y - x <;> simp [h3, h4]
theorem F292_eq {k x y : Int} (k1 : 1 ≤ k) (k2 : k ≤ 1000) (hy : 0 ≤ y) (hyx : y ≤ x) (hx : x ≤ 1000000) :
    F292 x y k = some (bif downB k x y then (bif decide (k * y - x < y) then (y, k * y - x, true, ()) else (k * y - x, y, true, ())) else (0, 0, false, ()), (), ()) := by
  obtain ⟨e1, e2, e3⟩ := small2 k1 k2 hy hyx hx
  unfold F292 downB
  simp only [e1, e2, e3, F173_eq, Option.bind_some]
  by_cases h1 : 0 ≤ k * y - x ∧ k * y - x < x
  · have : 0 ≤ k * y - x ∧ k * y - x ≤ x - 1 := by omega
    rw [decide_eq_true h1, decide_eq_true this]
    simp only [Bool.not_true, cond_false, cond_true]
    cases decide (k * y - x < y) <;> rfl
  · have : ¬ (0 ≤ k * y - x ∧ k * y - x ≤ x - 1) := by omega
    rw [decide_eq_false h1, decide_eq_false this]
    rfl
theorem L163x1_8 {k c : Int} (hkc : okKC k c = true) (m : Int) (x : Nat) (hx : x ≤ 200) (acc : List (List Int)) (hacc : acc.length ≤ 100000) :
    Loop B163x1_8 ((k, c, ((k, ()), ()), (), (x : Int), m, (x : Int), (x : Int) + 1, 0, ()), (acc, ())) = some ((k, c, ((k, ()), ()), (), m, (x : Int), ()), (acc ++ rowL (leastB k c) x (x + 1), ())) := by
  obtain ⟨k1, k2, _, _⟩ := okKC_iff.1 hkc
  have h := Loop_count (B := B163x1_8) (fun i => ((k, c, ((k, ()), ()), (), (x : Int), m, (x : Int), (x : Int) + 1, (i : Int), ()), (acc ++ rowL (leastB k c) x i, ()))) ((k, c, ((k, ()), ()), (), m, (x : Int), ()), (acc ++ rowL (leastB k c) x (x + 1), ())) (x + 1) (fun i hi => ?_) ?_
  · simpa [rowL] using h
  · have hl := rowL_len (leastB k c) x i
    have hlt : (i : Int) < (x : Int) + 1 := by omega
    have hw : IntKind.wrap .i64 ((i : Int) + 1) = (i : Int) + 1 := w64 (by omega) (by omega)
    have hf : fits ((acc ++ rowL (leastB k c) x i).length + [[(x : Int), (i : Int)]].length) 24 = true := fits_ok (by simp only [List.length_append, List.length_singleton]; omega)
    unfold B163x1_8
    simp only [decide_eq_true hlt, cond_true, F291_eq hkc, Option.bind_some, hw, hf]
    have e := F168_eq (x := (x : Int)) (y := (i : Int)) k1 k2 (by omega) (by omega) (by omega)
    cases hp : pairB k c x i
    · simp [rowL, leastB, hp]
    · simp only [cond_true, F167, e, Option.bind_some]
      cases hd : downB k x i <;> simp [rowL, leastB, hp, hd]
  · have hlt : ¬ (((x + 1 : Nat) : Int) < (x : Int) + 1) := by omega
    unfold B163x1_8
    simp only [decide_eq_false hlt, cond_false]
theorem L163x1_5 {k c : Int} (hkc : okKC k c = true) (n : Nat) (hn : n ≤ 201) :
    Loop B163x1_5 ((k, c, ((k, ()), ()), (), (n : Int), 0, ()), (([] : List (List Int)), ())) = some (((), ()), (allL (leastB k c) n, ())) := by
  have h := Loop_count (B := B163x1_5) (fun i => ((k, c, ((k, ()), ()), (), (n : Int), (i : Int), ()), (allL (leastB k c) i, ()))) (((), ()), (allL (leastB k c) n, ())) n (fun i hi => ?_) ?_
  · simpa [allL] using h
  · have hl := allL_len (leastB k c) i (by omega)
    have hlt : (i : Int) < (n : Int) := by omega
    have hw : IntKind.wrap .i64 ((i : Int) + 1) = (i : Int) + 1 := w64 (by omega) (by omega)
    unfold B163x1_5
    simp only [decide_eq_true hlt, cond_true, hw, L163x1_8 hkc (n : Int) i (by omega) (allL (leastB k c) i) (by omega), Option.bind_some]
    simp [allL]
  · unfold B163x1_5
    simp
theorem F20_eq (k c m : Int) : F20 k c m = some (((told (leastB k c) k c m).1, (told (leastB k c) k c m).2, ()), (), ()) := by
  unfold F20 F163x1 told okMost
  simp only [F290_eq, F169_eq, Option.bind_some]
  cases hkc : okKC k c
  · rfl
  · by_cases hm : 0 ≤ m ∧ m ≤ 200
    · obtain ⟨n, rfl⟩ := Int.eq_ofNat_of_zero_le hm.1
      have hw : IntKind.wrap .i64 ((n : Int) + 1) = ((n + 1 : Nat) : Int) := by rw [w64 (by omega) (by omega)]; omega
      simp only [hm, and_self, decide_true, Bool.not_true, cond_false, cond_true, Bool.and_self, hw, L163x1_5 hkc (n + 1) (by omega), Option.bind_some, Int.toNat_natCast]
      by_cases hg : ((allL (leastB k c) (n + 1)).length : Int) > 1000 <;> simp [hg]
    · rw [decide_eq_false hm]; rfl
/-- The model's loops. -/
def takenB (k c : Int) (least : Bool) (x y : Int) : Bool := pairB k c x y && (!least || !(downB k x y))
theorem L166_6 {k c : Int} (hkc : okKC k c = true) (m : Int) (b : Bool) (x : Nat) (hx : x ≤ 200) (acc : List (List Int)) (hacc : acc.length ≤ 100000) :
    Loop B166_6 ((k, c, m, b, (), (x : Int), 0, ()), (acc, ())) = some ((k, c, m, b, (), (x : Int), ()), (acc ++ rowL (takenB k c b) x (x + 1), ())) := by
  obtain ⟨k1, k2, _, _⟩ := okKC_iff.1 hkc
  have h := Loop_count (B := B166_6) (fun i => ((k, c, m, b, (), (x : Int), (i : Int), ()), (acc ++ rowL (takenB k c b) x i, ()))) ((k, c, m, b, (), (x : Int), ()), (acc ++ rowL (takenB k c b) x (x + 1), ())) (x + 1) (fun i hi => ?_) ?_
  · simpa [rowL] using h
  · have hl := rowL_len (takenB k c b) x i
    have hlt : (i : Int) ≤ (x : Int) := by omega
    have hw : IntKind.wrap .i64 ((i : Int) + 1) = (i : Int) + 1 := w64 (by omega) (by omega)
    have hf : fits ((acc ++ rowL (takenB k c b) x i).length + [[(x : Int), (i : Int)]].length) 24 = true := fits_ok (by simp only [List.length_append, List.length_singleton]; omega)
    unfold B166_6
    have e := F292_eq (x := (x : Int)) (y := (i : Int)) k1 k2 (by omega) (by omega) (by omega)
    simp only [decide_eq_true hlt, cond_true, F175_eq hkc, Option.bind_some, hw, hf, e]
    cases hp : pairB k c x i
    · simp [rowL, takenB, hp]
    · cases hd : downB k x i <;> cases b <;> simp [rowL, takenB, hp, hd]
      cases decide (k * (i : Int) - (x : Int) < (i : Int)) <;> rfl
  · have hlt : ¬ (((x + 1 : Nat) : Int) ≤ (x : Int)) := by omega
    unfold B166_6
    simp only [decide_eq_false hlt, cond_false]
theorem L166_3 {k c : Int} (hkc : okKC k c = true) (b : Bool) (n : Nat) (hn : n ≤ 200) :
    Loop B166_3 ((k, c, (n : Int), b, (), 0, ()), (([] : List (List Int)), ())) = some (((), ()), (allL (takenB k c b) (n + 1), ())) := by
  have h := Loop_count (B := B166_3) (fun i => ((k, c, (n : Int), b, (), (i : Int), ()), (allL (takenB k c b) i, ()))) (((), ()), (allL (takenB k c b) (n + 1), ())) (n + 1) (fun i hi => ?_) ?_
  · simpa [allL] using h
  · have hl := allL_len (takenB k c b) i (by omega)
    have hlt : (i : Int) ≤ (n : Int) := by omega
    have hw : IntKind.wrap .i64 ((i : Int) + 1) = (i : Int) + 1 := w64 (by omega) (by omega)
    unfold B166_3
    simp only [decide_eq_true hlt, cond_true, L166_6 hkc (n : Int) b i (by omega) (allL (takenB k c b) i) (by omega), Option.bind_some, hw]
    simp [allL]
  · have hlt : ¬ (((n + 1 : Nat) : Int) ≤ (n : Int)) := by omega
    unfold B166_3
    simp only [decide_eq_false hlt, cond_false]
theorem F165_eq (k c m : Int) : F165 k c m = some (okKC k c && okMost m, (), ()) := by
  unfold F165 okMost
  simp only [F174_eq, F173_eq, Option.bind_some]
  cases okKC k c <;> rfl
theorem taken_all (k c : Int) : takenB k c false = pairB k c := by funext x y; simp [takenB]
theorem taken_least (k c : Int) : takenB k c true = leastB k c := by funext x y; simp [takenB, leastB]
theorem F19_eq (k c m : Int) : F19 k c m = some (((told (pairB k c) k c m).1, (told (pairB k c) k c m).2, ()), (), ()) := by
  unfold F19 F166 told
  simp only [F165_eq, Option.bind_some]
  cases hkc : okKC k c
  · rfl
  · cases hm : okMost m
    · rfl
    · have hm := of_decide_eq_true hm
      obtain ⟨n, rfl⟩ := Int.eq_ofNat_of_zero_le hm.1
      have := L166_3 hkc false n (by omega)
      rw [taken_all] at this
      simp only [Bool.and_self, Bool.not_true, cond_false, cond_true, this, Option.bind_some, Int.toNat_natCast]
      by_cases hg : ((allL (pairB k c) (n + 1)).length : Int) > 1000 <;> simp [hg]
theorem F21_eq (k c m : Int) : F21 k c m = some (((told (leastB k c) k c m).1, (told (leastB k c) k c m).2, ()), (), ()) := by
  unfold F21 F166 told
  simp only [F165_eq, Option.bind_some]
  cases hkc : okKC k c
  · rfl
  · cases hm : okMost m
    · rfl
    · have hm := of_decide_eq_true hm
      obtain ⟨n, rfl⟩ := Int.eq_ofNat_of_zero_le hm.1
      have := L166_3 hkc true n (by omega)
      rw [taken_least] at this
      simp only [Bool.and_self, Bool.not_true, cond_false, cond_true, this, Option.bind_some, Int.toNat_natCast]
      by_cases hg : ((allL (leastB k c) (n + 1)).length : Int) > 1000 <;> simp [hg]
end Go.Proofs.Ytckieogkaodkdaa.V
