/- The plain law of the pairs. -/
import Derived.Test.YtckieogkaodkdaaP3e
set_option linter.unusedVariables false
set_option linter.unusedSimpArgs false
namespace Go.Proofs.Ytckieogkaodkdaa.V
open Go

theorem rowL_mem {p : Int → Int → Bool} {x : Int} {r : List Int} : ∀ {n : Nat}, r ∈ rowL p x n ↔ ∃ y : Nat, y < n ∧ r = [x, (y : Int)] ∧ p x y = true
  | 0 => by simp [rowL]
  | n + 1 => by
    simp only [rowL, List.mem_append, rowL_mem (n := n)]
    constructor
    · rintro (⟨y, h1, h2⟩ | h)
      · exact ⟨y, by omega, h2⟩
      · cases hp : p x (n : Int) with
        | false => rw [hp] at h; cases h
        | true => rw [hp] at h; exact ⟨n, by omega, List.mem_singleton.1 h, hp⟩
    · rintro ⟨y, h1, h2, h3⟩
      rcases Nat.lt_or_eq_of_le (Nat.le_of_lt_succ h1) with h4 | rfl
      · exact .inl ⟨y, h4, h2, h3⟩
      · exact .inr (by rw [h3]; exact List.mem_singleton.2 h2)
theorem allL_mem {p : Int → Int → Bool} {r : List Int} : ∀ {n : Nat}, r ∈ allL p n ↔ ∃ x y : Nat, x < n ∧ y ≤ x ∧ r = [(x : Int), (y : Int)] ∧ p x y = true
  | 0 => by simp [allL]
  | n + 1 => by
    simp only [allL, List.mem_append, allL_mem (n := n), rowL_mem]
    constructor
    · rintro (⟨x, y, h1, h2⟩ | ⟨y, h1, h2, h3⟩)
      · exact ⟨x, y, by omega, h2⟩
      · exact ⟨n, y, by omega, by omega, h2, h3⟩
    · rintro ⟨x, y, h1, h2, h3, h4⟩
      rcases Nat.lt_or_eq_of_le (Nat.le_of_lt_succ h1) with h5 | rfl
      · exact .inl ⟨x, y, h5, h2, h3, h4⟩
      · exact .inr ⟨y, by omega, h3, h4⟩
theorem rowL_sorted {p : Int → Int → Bool} {x : Int} : ∀ n, (rowL p x n).Pairwise before
  | 0 => .nil
  | n + 1 => by
    rw [rowL, List.pairwise_append]
    refine ⟨rowL_sorted n, ?_, fun a ha b hb => ?_⟩
    · cases p x (n : Int)
      · exact .nil
      · exact List.pairwise_singleton ..
    · obtain ⟨y, h1, rfl, _⟩ := rowL_mem.1 ha
      cases hp : p x (n : Int) with
      | false => rw [hp] at hb; cases hb
      | true =>
        rw [hp] at hb
        exact ⟨x, y, x, n, rfl, List.mem_singleton.1 hb, .inr ⟨rfl, by omega⟩⟩
theorem allL_sorted {p : Int → Int → Bool} : ∀ n, (allL p n).Pairwise before
  | 0 => .nil
  | n + 1 => by
    rw [allL, List.pairwise_append]
    refine ⟨allL_sorted n, rowL_sorted _, fun a ha b hb => ?_⟩
    obtain ⟨x, y, h1, _, rfl, _⟩ := allL_mem.1 ha
    obtain ⟨z, _, rfl, _⟩ := rowL_mem.1 hb
    exact ⟨x, y, n, z, rfl, rfl, .inl (by omega)⟩
theorem rowL_fewer {p q : Int → Int → Bool} (h : ∀ x y, q x y = true → p x y = true) (x : Int) : ∀ n, (rowL q x n).length ≤ (rowL p x n).length
  | 0 => Nat.le_refl _
  | n + 1 => by
    have := rowL_fewer h x n
    simp only [rowL, List.length_append]
    cases hq : q x (n : Int)
    · simp; omega
    · rw [h _ _ hq]; simp; omega
theorem allL_fewer {p q : Int → Int → Bool} (h : ∀ x y, q x y = true → p x y = true) : ∀ n, (allL q n).length ≤ (allL p n).length
  | 0 => Nat.le_refl _
  | n + 1 => by
    have h1 := allL_fewer h n
    have h2 := rowL_fewer h (n : Int) (n + 1)
    simp only [allL, List.length_append]
    omega
theorem told_true {p : Int → Int → Bool} {k c m : Int} (h : (told p k c m).2 = true) : okKC k c = true ∧ 0 ≤ m ∧ m ≤ 200 ∧ ¬ ((allL p (m.toNat + 1)).length : Int) > 1000 ∧ (told p k c m).1 = allL p (m.toNat + 1) := by
  unfold told at h ⊢
  cases h1 : okKC k c <;> rw [h1] at h
  · cases h
  · cases h2 : okMost m <;> rw [h2] at h
    · cases h
    · have h3 := of_decide_eq_true h2
      by_cases h4 : ((allL p (m.toNat + 1)).length : Int) > 1000
      · rw [decide_eq_true h4] at h; cases h
      · exact ⟨rfl, h3.1, h3.2, h4, by rw [decide_eq_false h4]; rfl⟩
theorem told_least {k c m : Int} (h : (told (pairB k c) k c m).2 = true) : (told (leastB k c) k c m).2 = true := by
  obtain ⟨h1, h2, h3, h4, _⟩ := told_true h
  have := allL_fewer (p := pairB k c) (q := leastB k c) (fun x y hq => (Bool.and_eq_true _ _ ▸ hq : _ ∧ _).1) (m.toNat + 1)
  have h5 : ¬ ((allL (leastB k c) (m.toNat + 1)).length : Int) > 1000 := by omega
  have hm : okMost m = true := decide_eq_true ⟨h2, h3⟩
  unfold told
  rw [h1, hm, decide_eq_false h5]; rfl
theorem told_same (p : Int → Int → Bool) (k c m : Int) : F22 (told p k c m).1 (told p k c m).1 = some (true, (), ()) := by
  have hn : F22 [] [] = some (true, (), ()) := F22_same [] (by simp) (by simp)
  cases h : (told p k c m).2 with
  | true =>
    obtain ⟨_, h2, h3, h4, h5⟩ := told_true h
    rw [h5]
    refine F22_same _ (by omega) fun r hr => ?_
    obtain ⟨x, y, _, _, rfl, _⟩ := allL_mem.1 hr
    simp
  | false =>
    have : (told p k c m).1 = [] := by
      unfold told at h ⊢
      cases h1 : okKC k c <;> rw [h1] at h
      · rfl
      · cases h2 : okMost m <;> rw [h2] at h
        · rfl
        · cases h4 : decide (((allL p (m.toNat + 1)).length : Int) > 1000) <;> rw [h4] at h
          · cases h
          · rfl
    rw [this]; exact hn
theorem ks_same (c m : Int) : F26 (bif okC c m then listOf (allH c m.toNat) else []) (bif okC c m then listOf (allH c m.toNat) else []) = some (true, (), ()) := by
  have hl : (bif okC c m then listOf (allH c m.toNat) else ([] : List Int)).length ≤ 1000000 := by
    cases okC c m
    · simp
    · have := selB_len (allH c m.toNat) 0 1001
      show (listOf _).length ≤ _
      unfold listOf
      omega
  rw [F26_eq _ _ hl]
  simp
theorem L3_17 (b2 : List Int) (k c m : Int) (all : List (List Int)) (ok : Bool) (classes : List (List Int)) (ks : List Int) (hl : ks.length ≤ 1000000) (h3 : ∀ z ∈ ks, z = 3) :
    Loop B3_17 ((b2, k, c, m, all, ok, classes, ks, (ks.length : Int), 0, ()), ()) = some (.inr ((b2, k, c, m, all, ok, classes, ()), ())) := by
  have hh := Loop_count (B := B3_17) (fun i => ((b2, k, c, m, all, ok, classes, ks, (ks.length : Int), (i : Int), ()), ())) (.inr ((b2, k, c, m, all, ok, classes, ()), ())) ks.length (fun i hi => ?_) ?_
  · exact hh
  · have hw : IntKind.wrap .i64 ((i : Int) + 1) = ((i + 1 : Nat) : Int) := by rw [w64 (by omega) (by omega)]; omega
    have hz : (ks.getD i 0 != 3) = false := by rw [getD_lt hi, h3 _ (List.getElem_mem hi)]; rfl
    unfold B3_17
    simp only [in_hi hi, in_lo, cond_true, Int.toNat_natCast, hz, cond_false, hw]
  · unfold B3_17; simp
theorem L3_30 {k c m : Int} (h : (told (pairB k c) k c m).2 = true) : Loop B3_30 ((k, c, m, (told (pairB k c) k c m).1, (told (leastB k c) k c m).1, (told (pairB k c) k c m).1, ((told (pairB k c) k c m).1.length : Int), 0, ()), ()) = some (.inr ((), ())) := by
  obtain ⟨hkc, hm0, hm1, hlen, hall⟩ := told_true h
  obtain ⟨_, _, _, hlen2, hcl⟩ := told_true (told_least h)
  rw [hall, hcl]
  generalize hA : allL (pairB k c) (m.toNat + 1) = A at *
  generalize hC : allL (leastB k c) (m.toNat + 1) = C at *
  have hh := Loop_count (B := B3_30) (fun i => ((k, c, m, A, C, A, (A.length : Int), (i : Int), ()), ())) (.inr ((), ())) A.length (fun i hi => ?_) ?_
  · exact hh
  · have hw : IntKind.wrap .i64 ((i : Int) + 1) = ((i + 1 : Nat) : Int) := by rw [w64 (by omega) (by omega)]; omega
    obtain ⟨x, y, h1, h2, h3, h4⟩ := allL_mem.1 (show A[i] ∈ allL (pairB k c) (m.toNat + 1) by rw [hA]; exact List.getElem_mem hi)
    obtain ⟨a, b, e31, hab, hax⟩ := F31_eq hkc h4
    obtain ⟨q1, q2, _, _⟩ := pairB_iff.1 ((Bool.and_eq_true _ _ ▸ hab : _ ∧ _).1)
    have hin : [a, b] ∈ C := by
      rw [← hC]
      refine allL_mem.2 ⟨a.toNat, b.toNat, by omega, by omega, ?_, ?_⟩
      · rw [Int.toNat_of_nonneg (by omega), Int.toNat_of_nonneg q1]
      · rw [Int.toNat_of_nonneg (by omega), Int.toNat_of_nonneg q1]; exact hab
    have e32 := F32_has C [a, b] (by omega) (by simp) hin
    have e30 : F30 (x : Int) (y : Int) k c = some (true, (), ()) := by rw [F30_eq hkc, h4]
    have hxm : decide ((x : Int) > m) = false := decide_eq_false (by omega)
    have hg : A.getD i [] = [(x : Int), (y : Int)] := by rw [getD_lt hi, h3]
    unfold B3_30
    simp only [in_hi hi, in_lo, cond_true, Int.toNat_natCast, hg, hw]
    have l1 : decide ((0 : Int) < (([(x : Int), (y : Int)].length : Nat) : Int)) = true := rfl
    have l2 : decide ((1 : Int) < (([(x : Int), (y : Int)].length : Nat) : Int)) = true := rfl
    have g0 : [(x : Int), (y : Int)].getD (Int.toNat 0) 0 = (x : Int) := rfl
    have g1 : [(x : Int), (y : Int)].getD (Int.toNat 1) 0 = (y : Int) := rfl
    simp only [l1, l2, g0, g1, cond_true, e31, e32, e30, Option.bind_some, Bool.not_true, cond_false, hxm]
    by_cases hi0 : (i : Int) > 0
    · obtain ⟨j, rfl⟩ : ∃ j, i = j + 1 := ⟨i - 1, by omega⟩
      have hw1 : IntKind.wrap .i64 (((j + 1 : Nat) : Int) - 1) = (j : Int) := by rw [w64 (by omega) (by omega)]; omega
      have hj : j < A.length := by omega
      have hb : before A[j] [(x : Int), (y : Int)] := by
        have := List.pairwise_iff_getElem.1 (show A.Pairwise before by rw [← hA]; exact allL_sorted (m.toNat + 1)) j (j + 1) hj hi (by omega)
        rw [h3] at this; exact this
      have e33 : F33 (A.getD j []) [(x : Int), (y : Int)] = some (true, (), ()) := by rw [getD_lt hj]; exact F33_eq hb
      simp only [decide_eq_true hi0, cond_true, hw1, in_lo, in_hi hj, Int.toNat_natCast, e33, Option.bind_some, Bool.not_true, cond_false]
    · simp only [decide_eq_false hi0, cond_false]
  · unfold B3_30; simp
theorem law3 (b1 b2 : List Int) (h1 : IsBytes b1) (h2 : IsBytes b2) : G3 ((b1, b2, ()), ()) = some (true, (), ()) := by
  show F3 b1 b2 = _
  obtain ⟨r16, e16⟩ := F16_ok (b1 := b1) (b2 := b2)
  obtain ⟨k, c, m, e17⟩ := F17_ok h1
  obtain ⟨d, bd, e23⟩ := F23_ok h2
  obtain ⟨x, y, e, e27⟩ := F27_ok h2
  obtain ⟨n, r, e28, e29, e30⟩ := F28_ok x y e
  have s1 := told_same (pairB k c) k c m
  have s2 := told_same (leastB k c) k c m
  have s3 := ks_same d bd
  have t1 : (told (pairB k c) k c m).2 = true → (told (leastB k c) k c m).2 = true := told_least
  have t2 : (told (pairB k c) k c m).2 = true → _ := L3_30 (k := k) (c := c) (m := m)
  have t3 := fun (hd : (d == 1) = true) (ho : okC d bd = true) (ok : Bool) => L3_17 b2 k c m (told (pairB k c) k c m).1 ok (told (leastB k c) k c m).1 (listOf (allH d bd.toNat)) (by
    have := selB_len (allH d bd.toNat) 0 1001
    unfold listOf; omega) (fun z hz => by
    have e1 : d = 1 := by simpa using hd
    subst e1
    exact ks_three hz)
  unfold F3
  simp only [e16, Option.bind_some]
  cases r16
  rotate_left
  · rfl
  simp only [cond_false, e17, Option.bind_some, F18_eq, F19_eq, F20_eq, F21_eq, beq_self_eq_true, Bool.not_true, s1, s2, e23, F24_eq, F25_eq, s3]
  generalize told (pairB k c) k c m = A at *
  generalize told (leastB k c) k c m = C at *
  obtain ⟨A, okA⟩ := A
  obtain ⟨C, okC'⟩ := C
  simp only at t1 t2 t3 ⊢
  have tail : ∀ z : Bool, (n != n) = false := fun _ => bne_self_eq_false _
  cases okA
  · cases ho : okC d bd
    · simp only [cond_false, e27, e28, e29, Option.bind_some, beq_self_eq_true, Bool.not_true, bne_self_eq_false, Bool.not_false, cond_true]
      cases hr : r
      · rfl
      · simp only [cond_true, e30 hr, Option.bind_some, Bool.not_true, cond_false]
    · cases hd : (d == 1)
      · simp only [cond_false, cond_true, e27, e28, e29, Option.bind_some, beq_self_eq_true, Bool.not_true, bne_self_eq_false, Bool.not_false]
        cases hr : r
        · rfl
        · simp only [cond_true, e30 hr, Option.bind_some, Bool.not_true, cond_false]
      · simp only [cond_false, cond_true, t3 hd ho false, e27, e28, e29, Option.bind_some, beq_self_eq_true, Bool.not_true, bne_self_eq_false, Bool.not_false]
        cases hr : r
        · rfl
        · simp only [cond_true, e30 hr, Option.bind_some, Bool.not_true, cond_false]
  · have hC := t1 rfl
    subst hC
    have t2 := t2 rfl
    cases ho : okC d bd
    · simp only [cond_false, cond_true, e27, e28, e29, Option.bind_some, beq_self_eq_true, Bool.not_true, bne_self_eq_false, Bool.not_false, t2]
      cases hr : r
      · simp only [cond_false]
      · simp only [cond_true, e30 hr, Option.bind_some, Bool.not_true, cond_false]
    · cases hd : (d == 1)
      · simp only [cond_false, cond_true, e27, e28, e29, Option.bind_some, beq_self_eq_true, Bool.not_true, bne_self_eq_false, Bool.not_false, t2]
        cases hr : r
        · simp only [cond_false]
        · simp only [cond_true, e30 hr, Option.bind_some, Bool.not_true, cond_false]
      · simp only [cond_false, cond_true, t3 hd ho true, e27, e28, e29, Option.bind_some, beq_self_eq_true, Bool.not_true, bne_self_eq_false, Bool.not_false, t2]
        cases hr : r
        · simp only [cond_false]
        · simp only [cond_true, e30 hr, Option.bind_some, Bool.not_true, cond_false]
end Go.Proofs.Ytckieogkaodkdaa.V
