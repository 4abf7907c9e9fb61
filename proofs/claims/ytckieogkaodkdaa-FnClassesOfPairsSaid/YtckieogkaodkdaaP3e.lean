/- The plain law of the pairs: what is drawn. -/
import Derived.Test.YtckieogkaodkdaaP3d
import Derived.Test.YtckieogkaodkdaaWs
set_option linter.unusedVariables false
set_option linter.unusedSimpArgs false
namespace Go.Proofs.Ytckieogkaodkdaa.V
open Go

theorem last_byte (z : Int) : 0 ≤ IntKind.wrap .i64 (IntKind.wrap .u64 ((BitVec.ofInt (IntKind.bits .u64) z &&& BitVec.ofInt (IntKind.bits .u64) 255).toNat : Int)) ∧ IntKind.wrap .i64 (IntKind.wrap .u64 ((BitVec.ofInt (IntKind.bits .u64) z &&& BitVec.ofInt (IntKind.bits .u64) 255).toNat : Int)) ≤ 255 := by
  have h : (BitVec.ofInt (IntKind.bits .u64) z &&& BitVec.ofInt (IntKind.bits .u64) 255).toNat ≤ 255 := by
    rw [BitVec.toNat_and]
    exact Nat.le_trans Nat.and_le_right (by decide)
  generalize (BitVec.ofInt (IntKind.bits .u64) z &&& BitVec.ofInt (IntKind.bits .u64) 255).toNat = n at *
  have e1 : IntKind.wrap .u64 (n : Int) = n := IntWalk.u64_in _ ⟨by omega, by omega⟩
  rw [e1, w64 (by omega) (by omega)]
  omega
theorem F311_ok {b : List Int} (hb : IsBytes b) {p s : Int} (h0 : 0 ≤ p) (h1 : p ≤ 1000000) : ∃ v s', F311 b p s = some (v, ((b, p + 1, s', ()), ()), ()) ∧ 0 ≤ v ∧ v ≤ 255 := by
  have hw : IntKind.wrap .i64 (p + 1) = p + 1 := w64 (by omega) (by omega)
  unfold F311
  by_cases hp : p < (b.length : Int)
  · obtain ⟨n, rfl⟩ := Int.eq_ofNat_of_zero_le h0
    have hn : n < b.length := by omega
    obtain ⟨g1, g2⟩ := hb.2 _ (List.getElem_mem hn)
    have hv : IntKind.wrap .i64 (b.getD n 0) = b[n] := by rw [getD_lt hn, w64 (by omega) (by omega)]
    simp only [decide_eq_true hp, cond_true, in_lo, Int.toNat_natCast, hv, hw]
    cases decide ((n : Int) + 1 ≤ (b.length : Int)) with
    | true => exact ⟨_, _, rfl, g1, by omega⟩
    | false => exact ⟨_, _, rfl, (last_byte _).1, (last_byte _).2⟩
  · simp only [decide_eq_false hp, cond_false, hw]
    cases decide (p + 1 ≤ (b.length : Int)) with
    | true => exact ⟨_, _, rfl, Int.le_refl _, by decide⟩
    | false => exact ⟨_, _, rfl, (last_byte _).1, (last_byte _).2⟩
theorem F230_ok {b : List Int} (hb : IsBytes b) {p s n : Int} (h0 : 0 ≤ p) (h1 : p ≤ 1000000) (hn : n ≤ 200) : ∃ v p' s', F230 n b p s = some (v, ((b, p', s', ()), ()), ()) ∧ 0 ≤ p' ∧ p' ≤ p + 1 ∧ 0 ≤ v ∧ (1 ≤ n → v < n) := by
  unfold F230
  by_cases h2 : n ≤ 1
  · simp only [decide_eq_true h2, cond_true]
    exact ⟨0, p, s, rfl, h0, by omega, Int.le_refl _, fun h => by omega⟩
  · obtain ⟨v, s', e, v0, v1⟩ := F311_ok hb (s := s) h0 h1
    have hz : ¬ n = 0 := by omega
    have hg : ¬ n > 200 := by omega
    simp only [decide_eq_false h2, cond_false, e, Option.bind_some, decide_eq_false hg, decide_eq_false hz]
    exact ⟨_, _, _, rfl, by omega, Int.le_refl _, Int.tmod_nonneg _ v0, fun _ => Int.tmod_lt_of_pos _ (by omega)⟩
theorem F212_ok {b : List Int} (hb : IsBytes b) {p s : Int} {l : List Int} (h0 : 0 ≤ p) (h1 : p ≤ 1000000) (hl : 1 ≤ l.length) (hl2 : l.length ≤ 200) : ∃ v p' s', F212 l b p s = some (v, ((b, p', s', ()), ()), ()) ∧ 0 ≤ p' ∧ p' ≤ p + 1 := by
  obtain ⟨v, p', s', e, q1, q2, v0, v1⟩ := F230_ok hb (s := s) (n := (l.length : Int)) h0 h1 (by omega)
  unfold F212
  have d1 : decide (0 ≤ v) = true := decide_eq_true v0
  have d2 : decide (v < (l.length : Int)) = true := decide_eq_true (v1 (by omega))
  simp only [e, Option.bind_some, d1, d2, cond_true]
  exact ⟨_, _, _, rfl, q1, q2⟩
theorem F162_ok {b : List Int} (hb : IsBytes b) : ∃ k c m p s, F162 b 0 0 = some ((k, c, m, ()), ((b, p, s, ()), ()), ()) := by
  obtain ⟨v1, p1, s1, e1, a1, b1, _⟩ := F230_ok hb (p := 0) (s := 0) (n := 8) (by omega) (by omega) (by omega)
  obtain ⟨v2, p2, s2, e2, a2, b2, _⟩ := F230_ok hb (p := p1) (s := s1) (n := 41) (by omega) (by omega) (by omega)
  obtain ⟨v3, p3, s3, e3, a3, b3, _⟩ := F230_ok hb (p := p2) (s := s2) (n := 60) (by omega) (by omega) (by omega)
  obtain ⟨v4, p4, s4, e4, a4, b4, _⟩ := F230_ok hb (p := p3) (s := s3) (n := 14) (by omega) (by omega) (by omega)
  unfold F162
  simp only [e1, e2, e3, e4, Option.bind_some]
  have four : ∀ l : List Int, l.length = 4 → ∃ v p' s', F212 l b p4 s4 = some (v, ((b, p', s', ()), ()), ()) := fun l hl => by
    obtain ⟨v, p', s', e, _⟩ := F212_ok hb (s := s4) (l := l) (p := p4) (by omega) (by omega) (by omega) (by omega)
    exact ⟨v, p', s', e⟩
  obtain ⟨w1, q1, t1, f1⟩ := four [(-1), 0, 1000, 1001] rfl
  obtain ⟨w2, q2, t2, f2⟩ := four [(-1001), (-1000), 1000, 1001] rfl
  obtain ⟨w3, q3, t3, f3⟩ := four [(-1), 0, 200, 201] rfl
  obtain ⟨w4, q4, t4, f4⟩ := four [0, 1, 4, 9] rfl
  simp only [f1, f2, f3, f4, Option.bind_some]
  cases (v4 == 0 : Bool)
  · cases (v4 == 1 : Bool)
    · cases (v4 == 2 : Bool)
      · cases (v4 == 3 : Bool)
        · exact ⟨_, _, _, _, _, rfl⟩
        · exact ⟨_, _, _, _, _, rfl⟩
      · exact ⟨_, _, _, _, _, rfl⟩
    · exact ⟨_, _, _, _, _, rfl⟩
  · exact ⟨_, _, _, _, _, rfl⟩
theorem F17_ok {b : List Int} (hb : IsBytes b) : ∃ k c m, F17 b = some ((k, c, m, ()), (), ()) := by
  obtain ⟨k, c, m, p, s, e⟩ := F162_ok hb
  unfold F17
  simp only [e, Option.bind_some]
  exact ⟨k, c, m, rfl⟩
theorem F23_ok {b : List Int} (hb : IsBytes b) : ∃ c m, F23 b = some ((c, m, ()), (), ()) := by
  obtain ⟨k, c, m, p, s, e⟩ := F162_ok hb
  unfold F23
  simp only [e, Option.bind_some]
  exact ⟨c, m, rfl⟩
theorem L172_6 (c : Int) (k : Int) (b : List Int) (p s : Int) (x y n : Int) (hn : 0 ≤ n) (hn2 : n ≤ 100) : ∃ x' y', Loop B172_6 (((), x, y, k, c, n, ()), ((b, p, s, ()), ())) = some (((), x', y', k, c, ()), ((b, p, s, ()), ())) := by
  have key := Loop_of (B := B172_6) (fun z => ∃ x y n, 0 ≤ n ∧ n ≤ 100 ∧ z = (((), x, y, k, c, n, ()), ((b, p, s, ()), ()))) (fun z => z.1.2.2.2.2.2.1.toNat) (fun r => ∃ x' y', r = (((), x', y', k, c, ()), ((b, p, s, ()), ()))) (fun z hz => ?_) _ ⟨x, y, n, hn, hn2, rfl⟩
  · obtain ⟨r, h1, x', y', rfl⟩ := key
    exact ⟨x', y', h1⟩
  · obtain ⟨x, y, n, h1, h2, rfl⟩ := hz
    unfold B172_6
    by_cases h3 : n > 0
    · have hw : IntKind.wrap .i64 (n - 1) = n - 1 := w64 (by omega) (by omega)
      simp only [decide_eq_true h3, cond_true, F173_eq, Option.bind_some, hw]
      cases decide (x ≤ IntKind.wrap .i64 (IntKind.wrap .i64 (k * x) - y) ∧ IntKind.wrap .i64 (IntKind.wrap .i64 (k * x) - y) ≤ 100000)
      · exact .inl ⟨_, rfl, ⟨_, _, n - 1, by omega, by omega, rfl⟩, by simp only; omega⟩
      · exact .inl ⟨_, rfl, ⟨_, _, n - 1, by omega, by omega, rfl⟩, by simp only; omega⟩
    · simp only [decide_eq_false h3, cond_false]
      exact .inr ⟨_, rfl, x, y, rfl⟩
theorem F27_ok {b : List Int} (hb : IsBytes b) : ∃ x y e, F27 b = some ((x, y, e, ()), (), ()) := by
  obtain ⟨v1, p1, s1, e1, a1, b1, c1, d1⟩ := F230_ok hb (p := 0) (s := 0) (n := 12) (by omega) (by omega) (by omega)
  have w1 : IntKind.wrap .i64 (1 + v1) = 1 + v1 := w64 (by omega) (by omega)
  have w2 : IntKind.wrap .i64 (1 + v1 + 1) = 1 + v1 + 1 := w64 (by omega) (by omega)
  obtain ⟨v2, p2, s2, e2, a2, b2, _⟩ := F230_ok hb (p := p1) (s := s1) (n := 1 + v1 + 1) (by omega) (by omega) (by omega)
  obtain ⟨v3, p3, s3, e3, a3, b3, _⟩ := F230_ok hb (p := p2) (s := s2) (n := 7) (by omega) (by omega) (by omega)
  obtain ⟨v4, p4, s4, e4, a4, b4, c4, d4⟩ := F230_ok hb (p := p3) (s := s3) (n := 6) (by omega) (by omega) (by omega)
  obtain ⟨v5, p5, s5, e5, a5, b5, _⟩ := F230_ok hb (p := p4) (s := s4) (n := 14) (by omega) (by omega) (by omega)
  have some4 : ∀ l : List Int, 1 ≤ l.length → l.length ≤ 5 → ∃ v p' s', F212 l b p5 s5 = some (v, ((b, p', s', ()), ()), ()) := fun l hl hl2 => by
    obtain ⟨v, p', s', e, _⟩ := F212_ok hb (s := s5) (l := l) (p := p5) (by omega) (by omega) hl (by omega)
    exact ⟨v, p', s', e⟩
  have hd := d4 (by omega)
  unfold F27 F172
  simp only [e1, w1, w2, e2, e3, e4, Option.bind_some]
  generalize IntKind.wrap .i64 (IntKind.wrap .i64 (IntKind.wrap .i64 (IntKind.wrap .i64 (IntKind.wrap .i64 (1 + v3) * (1 + v1)) * v2) - IntKind.wrap .i64 ((1 + v1) * (1 + v1))) - IntKind.wrap .i64 (v2 * v2)) = rest
  generalize IntKind.wrap .i64 (1 + v3) = k
  obtain ⟨x', y', el⟩ := L172_6 rest k b p4 s4 (1 + v1) v2 v4 c4 (by omega)
  simp only [el, Option.bind_some, e5]
  obtain ⟨w1, q1, t1, f1⟩ := some4 [(-1), 0, 1000000, 1000001, 4611686018427387904] (by simp) (by simp)
  obtain ⟨w2, q2, t2, f2⟩ := some4 [(-1), 0, x', IntKind.wrap .i64 (x' + 1)] (by simp) (by simp)
  obtain ⟨w3, q3, t3, f3⟩ := some4 [(-1), 0, 1, 1000, 1001] (by simp) (by simp)
  obtain ⟨w4, q4, t4, f4⟩ := some4 [(-1001), (-1000), 1000, 1001] (by simp) (by simp)
  simp only [f1, f2, f3, f4, Option.bind_some]
  cases (v5 == 0 : Bool)
  · cases (v5 == 1 : Bool)
    · cases (v5 == 2 : Bool)
      · cases (v5 == 3 : Bool)
        · exact ⟨_, _, _, rfl⟩
        · exact ⟨_, _, _, rfl⟩
      · exact ⟨_, _, _, rfl⟩
    · exact ⟨_, _, _, rfl⟩
  · exact ⟨_, _, _, rfl⟩
theorem F16_ok {b1 b2 : List Int} : ∃ r, F16 b1 b2 = some (r, (), ()) := by
  unfold F16
  by_cases h : (b1.length : Int) > 1048576
  · simp only [decide_eq_true h, cond_true]; exact ⟨_, rfl⟩
  · simp only [decide_eq_false h, cond_false]; exact ⟨_, rfl⟩
/-- Both tell the factor of a pair alike, and it is the factor. -/
theorem F28_ok (x y e : Int) : ∃ n r, F28 x y e = some ((n, r, ()), (), ()) ∧ F29 x y e = some ((n, r, ()), (), ()) ∧ (r = true → F30 x y n e = some (true, (), ())) := by
  by_cases h : 1 ≤ y ∧ y ≤ x ∧ x ≤ 1000000 ∧ -1000 ≤ e ∧ e ≤ 1000
  · obtain ⟨h1, h2, h3, h4, h5⟩ := h
    have e1 := F170_eq h1 h2 h3 h4 h5
    have e2 := F29_eq h1 h2 h3 h4 h5
    have g1 : 1 ≤ y ∧ y ≤ 1000000 := by omega
    have g2 : y ≤ x ∧ x ≤ 1000000 := by omega
    refine ⟨bif goodQ x y e then quo x y e else 0, goodQ x y e, ?_, ?_, fun hr => ?_⟩
    · unfold F28
      simp only [F169_eq, Option.bind_some, g1, g2, h4, h5, and_self, decide_true, Bool.not_true, cond_false, e1]
      cases goodQ x y e <;> rfl
    · rw [e2]; cases goodQ x y e <;> rfl
    · obtain ⟨q1, q2, q3⟩ := good_q hr
      rw [hr]
      have hk : okKC (quo x y e) e = true := okKC_iff.2 ⟨q1, q2, h4, h5⟩
      simp only [cond_true]
      rw [F30_eq hk, pairB_iff.2 ⟨by omega, h2, h3, q3⟩]
  · refine ⟨0, false, ?_, ?_, fun hr => by cases hr⟩
    · unfold F28
      simp only [F169_eq, Option.bind_some]
      by_cases g1 : 1 ≤ y ∧ y ≤ 1000000
      · by_cases g2 : y ≤ x ∧ x ≤ 1000000
        · have g3 : ¬ (-1000 ≤ e ∧ e ≤ 1000) := fun g3 => h ⟨g1.1, g2.1, g2.2, g3.1, g3.2⟩
          rw [decide_eq_true g1, decide_eq_true g2, decide_eq_false g3]; rfl
        · rw [decide_eq_true g1, decide_eq_false g2]; rfl
      · rw [decide_eq_false g1]; rfl
    · unfold F29
      simp only [F173_eq, Option.bind_some]
      by_cases g1 : 1 ≤ x ∧ x ≤ 1000000
      · by_cases g2 : 1 ≤ y ∧ y ≤ x
        · have g3 : ¬ (-1000 ≤ e ∧ e ≤ 1000) := fun g3 => h ⟨g2.1, g2.2, g1.2, g3.1, g3.2⟩
          rw [decide_eq_true g1, decide_eq_true g2, decide_eq_false g3]; rfl
        · rw [decide_eq_true g1, decide_eq_false g2]; rfl
      · rw [decide_eq_false g1]; rfl
end Go.Proofs.Ytckieogkaodkdaa.V
