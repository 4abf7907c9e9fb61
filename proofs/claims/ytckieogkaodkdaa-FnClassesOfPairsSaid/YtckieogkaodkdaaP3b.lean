/- The plain law of the pairs: lists compared; the way down to a least pair. -/
import Derived.Test.YtckieogkaodkdaaP3a
set_option linter.unusedVariables false
set_option linter.unusedSimpArgs false
namespace Go.Proofs.Ytckieogkaodkdaa.V
open Go

theorem getD_lt {α : Type} {l : List α} {i : Nat} {d : α} (h : i < l.length) : l.getD i d = l[i] := by simp [List.getD, h]
theorem in_lo (i : Nat) : decide ((0 : Int) ≤ (i : Int)) = true := decide_eq_true (Int.natCast_nonneg i)
theorem in_hi {i n : Nat} (h : i < n) : decide ((i : Int) < ((n : Nat) : Int)) = true := decide_eq_true (by omega)
theorem F26_eq (a b : List Int) (h : a.length ≤ 1000000) : F26 a b = some (decide (a = b), (), ()) := by
  unfold F26
  by_cases hl : a.length = b.length
  · have h0 : ((a.length : Int) != (b.length : Int)) = false := by simp [hl]
    simp only [h0, cond_false]
    have key := Loop_of (B := B26_4) (fun x => ∃ i : Nat, i ≤ a.length ∧ x = ((a, b, (a.length : Int), (i : Int), ()), ()) ∧ ∀ j, j < i → a.getD j 0 = b.getD j 0) (fun x => a.length - x.1.2.2.2.1.toNat)
      (fun r => (r = .inl ((false, ()), ()) ∧ a ≠ b) ∨ (r = .inr ((), ()) ∧ a = b)) (fun x hx => ?_) ((a, b, (a.length : Int), 0, ()), ()) ⟨0, Nat.zero_le _, rfl, fun j hj => by omega⟩
    · obtain ⟨r, h1, h2⟩ := key
      rw [h1, Option.bind_some]
      rcases h2 with ⟨rfl, hne⟩ | ⟨rfl, he⟩
      · simp [hne]
      · simp [he]
    · obtain ⟨i, hi, rfl, hp⟩ := hx
      by_cases hin : i < a.length
      · have hw : IntKind.wrap .i64 ((i : Int) + 1) = ((i + 1 : Nat) : Int) := by rw [w64 (by omega) (by omega)]; omega
        unfold B26_4
        simp only [in_hi hin, in_hi (hl ▸ hin), in_lo, cond_true, Int.toNat_natCast, hw]
        by_cases he : a.getD i 0 = b.getD i 0
        · have hb : (a.getD i 0 != b.getD i 0) = false := by rw [he]; exact bne_self_eq_false _
          refine .inl ⟨_, by simp only [hb, cond_false], ⟨i + 1, by omega, rfl, fun j hj => ?_⟩, by simp only [Int.toNat_natCast]; omega⟩
          rcases Nat.lt_or_eq_of_le (Nat.le_of_lt_succ hj) with h3 | rfl
          · exact hp j h3
          · exact he
        · refine .inr ⟨_, by simp only [bne_iff_ne.2 he, cond_true], .inl ⟨rfl, fun e => he (by rw [e])⟩⟩
      · have e : i = a.length := by omega
        subst e
        refine .inr ⟨_, by unfold B26_4; simp, .inr ⟨rfl, ?_⟩⟩
        apply List.ext_getElem hl
        intro j h3 h4
        have := hp j h3
        rwa [getD_lt h3, getD_lt h4] at this
  · have h0 : ((a.length : Int) != (b.length : Int)) = true := by simp; omega
    have : a ≠ b := fun e => hl (by rw [e])
    simp only [h0, cond_true, this, decide_false]
theorem F22_same (l : List (List Int)) (hl : l.length ≤ 1000000) (he : ∀ r ∈ l, r.length ≤ 1000) : F22 l l = some (true, (), ()) := by
  unfold F22
  have h0 : ((l.length : Int) != (l.length : Int)) = false := by simp
  simp only [h0, cond_false]
  have h := Loop_count (B := B22_4) (fun i => ((l, l, (l.length : Int), (i : Int), ()), ())) (.inr ((), ())) l.length (fun i hi => ?_) ?_
  · have h : Loop B22_4 ((l, l, (l.length : Int), 0, ()), ()) = _ := h
    rw [h]; rfl
  · have hw : IntKind.wrap .i64 ((i : Int) + 1) = ((i + 1 : Nat) : Int) := by rw [w64 (by omega) (by omega)]; omega
    have hr := he l[i] (List.getElem_mem hi)
    unfold B22_4
    simp only [in_hi hi, in_lo, cond_true, Int.toNat_natCast, hw, getD_lt hi, F26_eq _ _ (by omega : l[i].length ≤ 1000000), Option.bind_some, decide_true, Bool.not_true, cond_false]
  · unfold B22_4; simp
theorem F32_has (l : List (List Int)) (r : List Int) (hl : l.length ≤ 1000000) (hr : r.length ≤ 1000) (h : r ∈ l) : F32 l r = some (true, (), ()) := by
  unfold F32
  obtain ⟨j, hj, hjr⟩ := List.mem_iff_getElem.1 h
  have key := Loop_of (B := B32_2) (fun x => ∃ i : Nat, i ≤ j ∧ x = ((r, l, (l.length : Int), (i : Int), ()), ())) (fun x => j - x.1.2.2.2.1.toNat)
      (fun a => a = .inl ((true, ()), ())) (fun x hx => ?_) ((r, l, (l.length : Int), 0, ()), ()) ⟨0, Nat.zero_le _, rfl⟩
  · obtain ⟨a, h1, h2⟩ := key
    simp only [h1, h2]; rfl
  · obtain ⟨i, hi, rfl⟩ := hx
    have hin : i < l.length := by omega
    have hw : IntKind.wrap .i64 ((i : Int) + 1) = ((i + 1 : Nat) : Int) := by rw [w64 (by omega) (by omega)]; omega
    unfold B32_2
    simp only [in_hi hin, in_lo, cond_true, Int.toNat_natCast, hw, getD_lt hin, F26_eq r _ (by omega), Option.bind_some]
    by_cases he : r = l[i]
    · exact .inr ⟨_, by simp only [he, decide_true, cond_true], rfl⟩
    · have hne : i ≠ j := fun e => he (by subst e; exact hjr.symm)
      exact .inl ⟨_, by simp only [he, decide_false, cond_false], ⟨i + 1, by omega, rfl⟩, by simp only [Int.toNat_natCast]; omega⟩
/-- One pair stands ahead of another. -/
def before (p q : List Int) : Prop := ∃ x y x' y', p = [x, y] ∧ q = [x', y'] ∧ (x < x' ∨ (x = x' ∧ y < y'))
theorem F33_eq {p q : List Int} (h : before p q) : F33 p q = some (true, (), ()) := by
  obtain ⟨x, y, x', y', rfl, rfl, h⟩ := h
  unfold F33
  have hw : IntKind.wrap .i64 ((0 : Int) + 1) = 1 := by rw [w64] <;> omega
  by_cases hx : x = x'
  · subst hx
    have hy : y < y' := by omega
    have hne : (y != y') = true := by simp; omega
    have hl : Loop B33_2 (([x, y], [x, y'], 0, ()), ()) = some (.inl ((true, ()), ())) := by
      apply Loop_eq (n := 2)
      have e1 : B33_2 (([x, y], [x, y'], 0, ()), ()) = some (.inl (([x, y], [x, y'], 1, ()), ())) := by
        unfold B33_2; simp [w64]
      have e2 : B33_2 (([x, y], [x, y'], 1, ()), ()) = some (.inr (.inl ((true, ()), ()))) := by
        unfold B33_2; simp [hne, hy]
      simp only [iterN, e1, e2]
    rw [hl]; rfl
  · have hlt : x < x' := by omega
    have hne : (x != x') = true := by simp; omega
    have hl : Loop B33_2 (([x, y], [x', y'], 0, ()), ()) = some (.inl ((true, ()), ())) := by
      apply Loop_eq (n := 1)
      have e1 : B33_2 (([x, y], [x', y'], 0, ()), ()) = some (.inr (.inl ((true, ()), ()))) := by
        unfold B33_2; simp [hne, hlt]
      simp only [iterN, e1]
    rw [hl]; rfl
theorem F30_eq {k c : Int} (hkc : okKC k c = true) (x y : Int) : F30 x y k c = some (pairB k c x y, (), ()) := by
  unfold F30 F176
  simp only [F290_eq, hkc, F291_eq hkc, Option.bind_some, Bool.not_true, cond_false, cond_true]

/-! ### down to the least pair -/
/-- What a jump down leads to is a pair. -/
theorem down_pair {k c x y : Int} (h : pairB k c x y = true) (hd : downB k x y = true) : pairB k c (if k * y - x < y then y else k * y - x) (if y < k * y - x then y else k * y - x) = true := by
  obtain ⟨h1, h2, h3, h4⟩ := pairB_iff.1 h
  obtain ⟨d1, d2⟩ := of_decide_eq_true hd
  generalize hz : k * y - x = z at *
  have hzx : x = k * y - z := by omega
  have e : z * z + y * y + c = k * z * y := by
    have e1 : x * x = k * x * y - y * y - c := by omega
    have e2 : x * x = (k * y - z) * x := by rw [← hzx]
    have e3 : (k * y - z) * x = k * x * y - z * x := by rw [Int.sub_mul]; congr 1; rw [Int.mul_assoc, Int.mul_comm y x, ← Int.mul_assoc]
    have e4 : z * x = y * y + c := by omega
    have e5 : z * x = k * z * y - z * z := by rw [hzx, Int.mul_sub]; congr 1; rw [← Int.mul_assoc, Int.mul_comm z k]
    omega
  have e' : y * y + z * z + c = k * y * z := by
    have : k * y * z = k * z * y := by rw [Int.mul_assoc, Int.mul_comm y z, ← Int.mul_assoc]
    omega
  rw [pairB_iff]
  by_cases hlt : z < y
  · have : ¬ y < z := by omega
    simp only [hlt, this, if_true, if_false]
    exact ⟨d1, by omega, by omega, e'⟩
  · by_cases hgt : y < z
    · simp only [hlt, hgt, if_true, if_false]
      exact ⟨h1, by omega, by omega, e⟩
    · have hyz : z = y := by omega
      simp only [hlt, hgt, if_false]
      rw [hyz] at e ⊢
      exact ⟨h1, by omega, by omega, e⟩
theorem F31_eq {k c : Int} (hkc : okKC k c = true) {x y : Int} (h : pairB k c x y = true) : ∃ a b, F31 x y k c = some ((a, b, true, ()), (), ()) ∧ leastB k c a b = true ∧ a ≤ x := by
  obtain ⟨k1, k2, _, _⟩ := okKC_iff.1 hkc
  unfold F31 F177
  simp only [F290_eq, hkc, F291_eq hkc, h, Option.bind_some, Bool.not_true, cond_false, cond_true]
  have key := Loop_of (B := B31_3) (fun z => ∃ a b, z = ((a, b, k, ()), ()) ∧ pairB k c a b = true ∧ a ≤ x) (fun z => (z.1.1 + z.1.2.1).toNat) (fun r => ∃ a b, r = ((a, b, true, ()), ()) ∧ leastB k c a b = true ∧ a ≤ x) (fun z hz => ?_) ((x, y, k, ()), ()) ⟨x, y, rfl, h, Int.le_refl _⟩
  · obtain ⟨r, h1, h2⟩ := key
    obtain ⟨a, b, rfl, h3, h4⟩ := h2
    rw [h1]
    exact ⟨a, b, rfl, h3, h4⟩
  · obtain ⟨a, b, rfl, hp, hax⟩ := hz
    obtain ⟨p1, p2, p3, _⟩ := pairB_iff.1 hp
    unfold B31_3
    simp only [F168_eq k1 k2 p1 p2 p3, Option.bind_some]
    cases hd : downB k a b with
    | false => exact .inr ⟨_, rfl, a, b, rfl, by simp [leastB, hp, hd], hax⟩
    | true =>
      obtain ⟨d1, d2⟩ := of_decide_eq_true hd
      refine .inl ⟨_, rfl, ⟨_, _, rfl, down_pair hp hd, ?_⟩, ?_⟩
      · simp only [cond_true]; split <;> omega
      · simp only [cond_true]
        split <;> split <;> omega
end Go.Proofs.Ytckieogkaodkdaa.V
