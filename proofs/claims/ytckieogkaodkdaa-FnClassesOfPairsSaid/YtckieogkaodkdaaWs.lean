/- A law that takes two slices of bytes and answers a bool. -/
import Derived.Test.YtckieogkaodkdaaWr
import Derived.Below
import Derived.ProofKit
set_option linter.unusedVariables false
set_option linter.unusedSimpArgs false
namespace Go.Proofs.Ytckieogkaodkdaa.V
open Go Go.RowKit

/-- What is told of a slice of integers that came in: it is nil, or it leads to a row of numbers, its spare room among them. -/
def IsRow (k : IntKind) (w : World) (a : Option Addr) (len cap : Nat) (zs : List Int) : Prop :=
  (a = none ∧ len = 0 ∧ cap = 0 ∧ zs = []) ∨
  ∃ x, a = some x ∧ len ≤ cap ∧ cap ≤ maxLen ∧ zs.length = cap ∧ (∀ i, i < zs.length → w.cell? (x.add i) = some (.int k (zs.getD i 0))) ∧ ∀ n ∈ zs, (Lit.int k n).wf = true
def g0 : GM := ⟨fun _ => ⟨0, .lf⟩, fun _ => False⟩
theorem row_rd {k : IntKind} {w : World} {a : Option Addr} {len cap T : Nat} {zs : List Int} (h : IsRow k w a len cap zs) : Rd w (okOf w (fun _ => .none) g0) (.sl T (.int k)) (zs.take len) [.slice a len cap] ∧ (zs.take len).length ≤ maxLen ∧ ∀ n ∈ zs.take len, (Lit.int k n).wf = true := by
  rcases h with ⟨rfl, rfl, rfl, rfl⟩ | ⟨x, rfl, h1, h2, h3, h4, h5⟩
  · exact ⟨⟨none, 0, 0, rfl, rfl, Nat.le_refl _, fun i x hi => by simp at hi⟩, Nat.zero_le _, fun n hn => by simp at hn⟩
  · have hl : (zs.take len).length = len := by rw [List.length_take]; omega
    refine ⟨⟨some x, len, cap, rfl, hl, h1, fun i z hi => ?_⟩, by omega, fun n hn => h5 n (List.mem_of_mem_take hn)⟩
    have hi2 : i < len := hl ▸ (List.getElem?_eq_some_iff.1 hi).1
    have hc := h4 i (by omega)
    rw [List.getElem?_take, if_pos hi2] at hi
    have e : zs.getD i 0 = z := by simp [List.getD, hi]
    rw [e] at hc
    refine ⟨x, [.int k z], rfl, ⟨?_, fun h => h, fun id hk => by cases hk⟩, rfl, fun j u hj => ?_⟩
    · have : (x.add i).block < w.heap.size := by
        unfold World.cell? at hc
        cases hh : w.heap[(x.add i).block]? with
        | none => rw [hh] at hc; cases hc
        | some o => exact (Array.getElem?_eq_some_iff.1 hh).1
      rw [add_block] at this; exact this
    · cases j with
      | zero =>
        simp only [List.getElem?_cons_zero, Option.some.injEq] at hj
        subst hj
        simpa [ET.sz] using hc
      | succ j => simp at hj
@[reducible] def FB (T : Nat) : FForm := ⟨[.a (.a (.dat (.sl T (.int .u8)))), .a (.a (.dat (.sl T (.int .u8))))], [], .a (.a (.a (.dat .bool))), []⟩
/-- The bytes of a slice. -/
def IsBytes (b : List Int) : Prop := b.length ≤ maxLen ∧ ∀ n ∈ b, 0 ≤ n ∧ n < 256
theorem u8_wf {n : Int} (h : (Lit.int .u8 n).wf = true) : 0 ≤ n ∧ n < 256 := by
  have h : IntKind.u8.min ≤ n ∧ n ≤ IntKind.u8.max := by simpa [Lit.wf, IntKind.wrap] using h
  have e1 : IntKind.u8.min = 0 := by decide
  have e2 : IntKind.u8.max = 255 := by decide
  omega
theorem bytes_calls {P : Program} {f T : Nat} {G : (FB T).X → Option (FB T).A} (hS : CallsOK P f ((FB T).spec G)) (hlaw : ∀ b1 b2 : List Int, IsBytes b1 → IsBytes b2 → G ((b1, b2, ()), ()) = some (true, (), ()))
    {a0 a1 : Option Addr} {len0 cap0 len1 cap1 : Nat} {z0 z1 : List Int} {w : World} (h0 : IsRow .u8 w a0 len0 cap0 z0) (h1 : IsRow .u8 w a1 len1 cap1 z1) :
    Calls P f #[.slice a0 len0 cap0, .slice a1 len1 cap1] w fun e w' => e = .returned (.bool true) ∧ Below w.heap.size w w' := by
  obtain ⟨r0, l0, b0⟩ := row_rd (T := T) h0
  obtain ⟨r1, l1, b1⟩ := row_rd (T := T) h1
  have hG := hlaw (z0.take len0) (z1.take len1) ⟨l0, fun n hn => u8_wf (b0 n hn)⟩ ⟨l1, fun n hn => u8_wf (b1 n hn)⟩
  have hpre : Pre [.d (.sl T (.int .u8)) (z0.take len0), .d (.sl T (.int .u8)) (z1.take len1)] (fun _ => .none) g0 #[.slice a0 len0 cap0, .slice a1 len1 cap1] w :=
    ⟨.cons r0 (.cons r1 .nil), fun _ => trivial, (fun id k hk => by cases hk), (fun id id' k hk => by cases hk), fun k hk => hk.elim, fun _ _ => rfl, fun id h => absurd rfl h⟩
  have hc := hS [.d (.sl T (.int .u8)) (z0.take len0), .d (.sl T (.int .u8)) (z1.take len1)] (fun _ => .none) _ (true, (), ()) (by
    unfold FForm.spec
    simp only [rd2, P2.rd, P1.rd, P0.rd, asE, dite_true, rdM]
    rfl) hG g0 _ w hpre
  refine Calls.mono hc fun e w' h => ?_
  cases e with
  | returned v =>
    obtain ⟨g', _, _, _, _, _, _, hr⟩ := h.ex
    have hv : v = .bool true := R3.bool hr
    exact ⟨by rw [hv], h.os, h.tape, h.output, h.size, fun k hk => h.same k hk fun id hid => by cases hid⟩
  | panicked _ => exact h.elim
  | outgrown => exact h.elim
end Go.Proofs.Ytckieogkaodkdaa.V
