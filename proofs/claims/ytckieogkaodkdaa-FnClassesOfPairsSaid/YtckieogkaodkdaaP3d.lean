/- The plain law of the pairs: all factors up to a bound; one more is a multiple only for 3. -/
import Derived.Test.YtckieogkaodkdaaP3c
set_option linter.unusedVariables false
set_option linter.unusedSimpArgs false
namespace Go.Proofs.Ytckieogkaodkdaa.V
open Go

def stepH (c : Int) (h : List Bool) (x y : Int) : List Bool := bif goodQ x y c then h.set (quo x y c).toNat true else h
def rowH (c : Int) (x : Nat) : Nat → List Bool → List Bool
  | 0, h => h
  | n + 1, h => stepH c (rowH c x n h) x (n + 1 : Nat)
def allH (c : Int) : Nat → List Bool
  | 0 => List.replicate 1001 false
  | n + 1 => rowH c (n + 1) (n + 1) (allH c n)
theorem stepH_len {c : Int} {h : List Bool} {x y : Int} (hl : h.length = 1001) : (stepH c h x y).length = 1001 := by
  unfold stepH; cases goodQ x y c <;> simp [hl]
theorem rowH_len {c : Int} {x : Nat} {h : List Bool} (hl : h.length = 1001) : ∀ n, (rowH c x n h).length = 1001
  | 0 => hl
  | n + 1 => stepH_len (rowH_len hl n)
theorem allH_len (c : Int) : ∀ n, (allH c n).length = 1001
  | 0 => List.length_replicate ..
  | n + 1 => rowH_len (allH_len c n) _
theorem good_q {x y c : Int} (h : goodQ x y c = true) : 1 ≤ quo x y c ∧ quo x y c ≤ 1000 ∧ x * x + y * y + c = quo x y c * x * y := of_decide_eq_true h
theorem cast1 (i : Nat) : ((i + 1 : Nat) : Int) = (i : Int) + 1 := by omega
section
variable {c : Int} (c1 : -1000 ≤ c) (c2 : c ≤ 1000)
include c1 c2
theorem L24_8 (m : Int) (x : Nat) (hx1 : 1 ≤ x) (hx : x ≤ 200) (h : List Bool) : Loop B24_8 ((c, m, (), (x : Int), 1, ()), (h, ())) = some ((c, m, (), (x : Int), ()), (rowH c x x h, ())) := by
  have hh := Loop_count (B := B24_8) (fun i => ((c, m, (), (x : Int), ((i + 1 : Nat) : Int), ()), (rowH c x i h, ()))) ((c, m, (), (x : Int), ()), (rowH c x x h, ())) x (fun i hi => ?_) ?_
  · exact hh
  · have hle : decide (((i + 1 : Nat) : Int) ≤ (x : Int)) = true := decide_eq_true (by omega)
    have hw : IntKind.wrap .i64 (((i + 1 : Nat) : Int) + 1) = ((i + 1 + 1 : Nat) : Int) := by rw [w64 (by omega) (by omega)]; omega
    unfold B24_8
    simp only [hle, cond_true, F170_eq (x := (x : Int)) (y := ((i + 1 : Nat) : Int)) (by omega) (by omega) (by omega) c1 c2, Option.bind_some, hw]
    cases hg : goodQ (x : Int) ((i + 1 : Nat) : Int) c
    · simp only [rowH, stepH, hg, cond_false]
    · obtain ⟨q1, q2, _⟩ := good_q hg
      have d1 : decide (0 ≤ quo (x : Int) ((i + 1 : Nat) : Int) c) = true := decide_eq_true (by omega)
      have d2 : decide (quo (x : Int) ((i + 1 : Nat) : Int) c < ((1001 : Nat) : Int)) = true := decide_eq_true (by omega)
      simp only [cond_true, d1, d2, rowH, stepH, hg]
  · have hle : decide (((x + 1 : Nat) : Int) ≤ (x : Int)) = false := decide_eq_false (by omega)
    unfold B24_8
    simp only [hle, cond_false]
theorem L24_5 (m : Nat) (hm : m ≤ 200) : Loop B24_5 ((c, (m : Int), (), 1, ()), (List.replicate 1001 false, ())) = some (((), ()), (allH c m, ())) := by
  have hh := Loop_count (B := B24_5) (fun i => ((c, (m : Int), (), ((i + 1 : Nat) : Int), ()), (allH c i, ()))) (((), ()), (allH c m, ())) m (fun i hi => ?_) ?_
  · exact hh
  · have hle : decide (((i + 1 : Nat) : Int) ≤ (m : Int)) = true := decide_eq_true (by omega)
    have hw : IntKind.wrap .i64 (((i + 1 : Nat) : Int) + 1) = ((i + 1 + 1 : Nat) : Int) := by rw [w64 (by omega) (by omega)]; omega
    unfold B24_5
    simp only [hle, cond_true, L24_8 c1 c2 (m : Int) (i + 1) (by omega) (by omega) (allH c i), Option.bind_some, hw]
    rfl
  · have hle : decide (((m + 1 : Nat) : Int) ≤ (m : Int)) = false := decide_eq_false (by omega)
    unfold B24_5
    simp only [hle, cond_false]
theorem L25_8 (m : Int) (x : Nat) (hx1 : 1 ≤ x) (hx : x ≤ 200) (h : List Bool) (hl : h.length = 1001) : Loop B25_8 ((c, m, listOf h, (x : Int), 1, ()), ()) = some ((c, m, listOf (rowH c x x h), (x : Int), ()), ()) := by
  have hh := Loop_count (B := B25_8) (fun i => ((c, m, listOf (rowH c x i h), (x : Int), ((i + 1 : Nat) : Int), ()), ())) ((c, m, listOf (rowH c x x h), (x : Int), ()), ()) x (fun i hi => ?_) ?_
  · exact hh
  · have hle : decide (((i + 1 : Nat) : Int) ≤ (x : Int)) = true := decide_eq_true (by omega)
    have hw : IntKind.wrap .i64 (((i + 1 : Nat) : Int) + 1) = ((i + 1 + 1 : Nat) : Int) := by rw [w64 (by omega) (by omega)]; omega
    unfold B25_8
    simp only [hle, cond_true, F29_eq (x := (x : Int)) (y := ((i + 1 : Nat) : Int)) (by omega) (by omega) (by omega) c1 c2, Option.bind_some, hw]
    cases hg : goodQ (x : Int) ((i + 1 : Nat) : Int) c
    · simp only [rowH, stepH, hg, cond_false]
    · obtain ⟨q1, q2, _⟩ := good_q hg
      have e := F171_eq (rowH_len (c := c) (x := x) hl i) (k := (quo (x : Int) ((i + 1 : Nat) : Int) c).toNat) (by omega)
      rw [Int.toNat_of_nonneg (by omega)] at e
      simp only [cond_true, e, Option.bind_some, rowH, stepH, hg]
  · have hle : decide (((x + 1 : Nat) : Int) ≤ (x : Int)) = false := decide_eq_false (by omega)
    unfold B25_8
    simp only [hle, cond_false]
theorem L25_5 (m : Nat) (hm : m ≤ 200) : Loop B25_5 ((c, (m : Int), listOf (allH c 0), 1, ()), ()) = some ((listOf (allH c m), ()), ()) := by
  have hh := Loop_count (B := B25_5) (fun i => ((c, (m : Int), listOf (allH c i), ((i + 1 : Nat) : Int), ()), ())) ((listOf (allH c m), ()), ()) m (fun i hi => ?_) ?_
  · exact hh
  · have hle : decide (((i + 1 : Nat) : Int) ≤ (m : Int)) = true := decide_eq_true (by omega)
    have hw : IntKind.wrap .i64 (((i + 1 : Nat) : Int) + 1) = ((i + 1 + 1 : Nat) : Int) := by rw [w64 (by omega) (by omega)]; omega
    unfold B25_5
    simp only [hle, cond_true, L25_8 c1 c2 (m : Int) (i + 1) (by omega) (by omega) (allH c i) (allH_len c i), Option.bind_some, hw]
    rfl
  · have hle : decide (((m + 1 : Nat) : Int) ≤ (m : Int)) = false := decide_eq_false (by omega)
    unfold B25_5
    simp only [hle, cond_false]
end
theorem L24_15 (h : List Bool) : Loop B24_15 (((), h, 0, ()), (([] : List Int), ())) = some (((), ()), (listOf h, ())) := by
  have hh := Loop_count (B := B24_15) (fun i => (((), h, (i : Int), ()), (selB h 0 i, ()))) (((), ()), (selB h 0 1001, ())) 1001 (fun i hi => ?_) ?_
  · exact hh
  · have h1 : decide ((i : Int) < 1001) = true := decide_eq_true (by omega)
    have hw : IntKind.wrap .i64 ((i : Int) + 1) = ((i + 1 : Nat) : Int) := by rw [w64 (by omega) (by omega)]; omega
    have hl := selB_len h 0 i
    have hf : fits ((selB h 0 i).length + [(i : Int)].length) 8 = true := fits_ok (by simp; omega)
    unfold B24_15
    simp only [h1, in_lo, in_hi hi, cond_true, Int.toNat_natCast, hf, hw, selB, sel1, Nat.zero_add]
    cases h.getD i false <;> simp
  · unfold B24_15; simp
theorem sel_none : ∀ n a, selB (List.replicate 1001 false) a n = []
  | 0, _ => rfl
  | n + 1, a => by
    have : (List.replicate 1001 false).getD (a + n) false = false := by
      rw [List.getD_eq_getElem?_getD, List.getElem?_replicate]; split <;> rfl
    simp only [selB, sel_none n a, sel1, this]; rfl
def okC (c m : Int) : Bool := decide (-1000 ≤ c ∧ c ≤ 1000) && okMost m
theorem F24_eq (c m : Int) : F24 c m = some (((), okC c m, ()), (), ((bif okC c m then listOf (allH c m.toNat) else []), ())) := by
  unfold F24 okC okMost
  simp only [F169_eq, Option.bind_some]
  by_cases hc : -1000 ≤ c ∧ c ≤ 1000
  · by_cases hm : 0 ≤ m ∧ m ≤ 200
    · obtain ⟨n, rfl⟩ := Int.eq_ofNat_of_zero_le hm.1
      simp only [hc, hm, and_self, decide_true, Bool.not_true, cond_false, cond_true, Bool.and_self, L24_5 hc.1 hc.2 n (by omega), L24_15, Option.bind_some, Int.toNat_natCast]
    · rw [decide_eq_true hc, decide_eq_false hm]; rfl
  · rw [decide_eq_false hc]; rfl
theorem F25_eq (c m : Int) : F25 c m = some (((bif okC c m then listOf (allH c m.toNat) else []), okC c m, ()), (), ()) := by
  unfold F25
  have e : (okKC 1 c && okMost m) = okC c m := by
    unfold okKC okC
    congr 1
    by_cases h : -1000 ≤ c ∧ c ≤ 1000 <;> simp [h]
  simp only [F165_eq, Option.bind_some, e]
  cases ho : okC c m
  · rfl
  · simp only [okC, okMost, Bool.and_eq_true, decide_eq_true_eq] at ho
    obtain ⟨hc, hm⟩ := ho
    obtain ⟨n, rfl⟩ := Int.eq_ofNat_of_zero_le hm.1
    have e0 : listOf (allH c 0) = [] := sel_none 1001 0
    have := L25_5 hc.1 hc.2 n (by omega)
    rw [e0] at this
    simp only [Bool.not_true, cond_false, cond_true, this, Option.bind_some, Int.toNat_natCast]
/-- What is marked has a pair. -/
theorem rowH_wit {c : Int} {x : Nat} {h : List Bool} {k : Nat} : ∀ {n : Nat}, (rowH c x n h).getD k false = true → h.getD k false = true ∨ ∃ y : Int, 1 ≤ y ∧ y ≤ n ∧ goodQ x y c = true ∧ quo x y c = k
  | 0, hk => .inl hk
  | n + 1, hk => by
    simp only [rowH, stepH] at hk
    have rest : (rowH c x n h).getD k false = true → h.getD k false = true ∨ ∃ y : Int, 1 ≤ y ∧ y ≤ (n + 1 : Nat) ∧ goodQ x y c = true ∧ quo x y c = k := fun hk => by
      rcases rowH_wit hk with h1 | ⟨y, h1, h2, h3⟩
      · exact .inl h1
      · exact .inr ⟨y, h1, by omega, h3⟩
    cases hg : goodQ (x : Int) ((n + 1 : Nat) : Int) c with
    | false => rw [hg] at hk; exact rest hk
    | true =>
      rw [hg] at hk
      have hk : ((rowH c x n h).set (quo (x : Int) ((n + 1 : Nat) : Int) c).toNat true).getD k false = true := hk
      by_cases e : k = (quo (x : Int) ((n + 1 : Nat) : Int) c).toNat
      · have := (good_q hg).1
        exact .inr ⟨((n + 1 : Nat) : Int), by omega, Int.le_refl _, hg, by omega⟩
      · rw [getD_set_ne e] at hk; exact rest hk
theorem allH_wit {c : Int} {k : Nat} : ∀ {n : Nat}, (allH c n).getD k false = true → ∃ x y : Int, 1 ≤ y ∧ y ≤ x ∧ goodQ x y c = true ∧ quo x y c = k
  | 0, hk => by
    have : (List.replicate 1001 false).getD k false = false := by
      rw [List.getD_eq_getElem?_getD, List.getElem?_replicate]; split <;> rfl
    simp only [allH] at hk
    rw [this] at hk; cases hk
  | n + 1, hk => by
    rcases rowH_wit hk with h1 | ⟨y, h1, h2, h3, h4⟩
    · exact allH_wit h1
    · exact ⟨((n + 1 : Nat) : Int), y, h1, h2, h3, h4⟩
/-- x x + y y + 1 is a multiple of x y only for 3. -/
theorem three : ∀ (s : Nat) (x y n : Int), (x + y).toNat ≤ s → 1 ≤ y → y ≤ x → x * x + y * y + 1 = n * x * y → n = 3 := by
  intro s
  induction s with
  | zero => intro x y n hs hy hyx _; omega
  | succ s ih =>
    intro x y n hs hy hyx h
    by_cases he : x = y
    · subst he
      have h1 : x * (n * x - 2 * x) = 1 := by
        rw [Int.mul_sub]
        have e1 : x * (n * x) = n * x * x := by rw [← Int.mul_assoc, Int.mul_comm x n]
        have e2 : x * (2 * x) = 2 * (x * x) := by rw [← Int.mul_assoc, Int.mul_comm x 2, Int.mul_assoc]
        omega
      have hx : x = 1 := Int.eq_one_of_mul_eq_one_right (by omega) h1
      subst hx
      omega
    · have hlt : y < x := by omega
      generalize hz : n * y - x = z at *
      have e0 : n * y = x + z := by omega
      have e1 : n * x * y = x * x + x * z := by
        rw [Int.mul_assoc, Int.mul_comm x y, ← Int.mul_assoc, e0, Int.add_mul, Int.mul_comm z x]
      have e2 : x * z = y * y + 1 := by omega
      have yy : 0 < y * y := Int.mul_pos (by omega) (by omega)
      have hz1 : 1 ≤ z := by
        refine Int.not_lt.1 fun hneg => ?_
        have : x * z ≤ 0 := Int.mul_nonpos_of_nonneg_of_nonpos (by omega) (by omega)
        omega
      have hzy : z ≤ y := by
        refine Int.not_lt.1 fun hgt => ?_
        have h5 : (y + 1) * (y + 1) ≤ x * z := Int.mul_le_mul (by omega) (by omega) (by omega) (by omega)
        have h6 : (y + 1) * (y + 1) = y * y + 2 * y + 1 := by
          rw [Int.add_mul, Int.mul_add]; omega
        omega
      refine ih y z n (by omega) hz1 hzy ?_
      have e3 : n * y * z = x * z + z * z := by rw [e0, Int.add_mul]
      omega
theorem ks_three {m : Nat} {z : Int} (h : z ∈ listOf (allH 1 m)) : z = 3 := by
  obtain ⟨k, rfl, _, _, hk⟩ := selB_mem h
  obtain ⟨x, y, h1, h2, h3, h4⟩ := allH_wit hk
  obtain ⟨_, _, h5⟩ := good_q h3
  rw [h4] at h5
  exact three _ x y k (Nat.le_refl _) h1 h2 h5
end Go.Proofs.Ytckieogkaodkdaa.V
