/- How abstract values and memory are told of the model's, and that what is told outlives whatever else becomes of the world. -/
import Derived.Test.YtckieogkaodkdaaWa
set_option linter.unusedVariables false
namespace Go.Proofs.Ytckieogkaodkdaa.V
open Go Go.RowKit

inductive All2 {α β : Type} (R : α → β → Prop) : List α → List β → Prop
  | nil : All2 R [] []
  | cons {a b as bs} : R a b → All2 R as bs → All2 R (a :: as) (b :: bs)

section
variable {α β γ : Type} {R R' : α → β → Prop}
theorem All2.mono (h : ∀ a b, R a b → R' a b) {l : List α} {l' : List β} (hl : All2 R l l') : All2 R' l l' := by
  induction hl with
  | nil => exact .nil
  | cons h1 _ ih => exact .cons (h _ _ h1) ih
theorem All2.length {l : List α} {l' : List β} (hl : All2 R l l') : l.length = l'.length := by
  induction hl with
  | nil => rfl
  | cons _ _ ih => simp [ih]
theorem All2.get {l : List α} {l' : List β} (hl : All2 R l l') : ∀ (i : Nat) (a : α), l[i]? = some a → ∃ b, l'[i]? = some b ∧ R a b := by
  induction hl with
  | nil => intro i a h; simp at h
  | cons h1 _ ih =>
    intro i a h
    cases i with
    | zero => simp at h; subst h; exact ⟨_, rfl, h1⟩
    | succ i => simp at h; simpa using ih i a h
theorem All2.get' {l : List α} {l' : List β} (hl : All2 R l l') : ∀ (i : Nat) (b : β), l'[i]? = some b → ∃ a, l[i]? = some a ∧ R a b := by
  induction hl with
  | nil => intro i a h; simp at h
  | cons h1 _ ih =>
    intro i a h
    cases i with
    | zero => simp at h; subst h; exact ⟨_, rfl, h1⟩
    | succ i => simp at h; simpa using ih i a h
theorem All2.append {l l2 : List α} {l' l2' : List β} (hl : All2 R l l') (h2 : All2 R l2 l2') : All2 R (l ++ l2) (l' ++ l2') := by
  induction hl with
  | nil => exact h2
  | cons h1 _ ih => exact .cons h1 ih
theorem All2.take {l : List α} {l' : List β} (hl : All2 R l l') : ∀ n, All2 R (l.take n) (l'.take n) := by
  induction hl with
  | nil => intro n; simp; exact .nil
  | cons h1 _ ih => intro n; cases n with
    | zero => exact .nil
    | succ n => exact .cons h1 (ih n)
theorem All2.drop {l : List α} {l' : List β} (hl : All2 R l l') : ∀ n, All2 R (l.drop n) (l'.drop n) := by
  induction hl with
  | nil => intro n; simp; exact .nil
  | cons h1 h2 ih => intro n; cases n with
    | zero => exact .cons h1 h2
    | succ n => exact ih n
theorem All2.map {α' : Type} {f : α → α'} {Q : α' → β → Prop} (h : ∀ a b, R a b → Q (f a) b) {l : List α} {l' : List β} (hl : All2 R l l') : All2 Q (l.map f) l' := by
  induction hl with
  | nil => exact .nil
  | cons h1 _ ih => exact .cons (h _ _ h1) ih
theorem All2.map2 {α' β' : Type} {f : α → α'} {g : β → β'} {Q : α' → β' → Prop} (h : ∀ a b, R a b → Q (f a) (g b)) {l : List α} {l' : List β} (hl : All2 R l l') : All2 Q (l.map f) (l'.map g) := by
  induction hl with
  | nil => exact .nil
  | cons h1 _ ih => exact .cons (h _ _ h1) ih
theorem All2.set {l : List α} {l' : List β} (hl : All2 R l l') {a : α} {b : β} (h : R a b) : ∀ n, All2 R (l.set n a) (l'.set n b) := by
  induction hl with
  | nil => intro n; exact .nil
  | cons h1 h2 ih => intro n; cases n with
    | zero => exact .cons h h2
    | succ n => exact .cons h1 (ih n)
theorem All2.of_get {l : List α} {l' : List β} (hn : l.length = l'.length) (h : ∀ (i : Nat) a b, l[i]? = some a → l'[i]? = some b → R a b) : All2 R l l' := by
  induction l generalizing l' with
  | nil => cases l' with
    | nil => exact .nil
    | cons _ _ => simp at hn
  | cons a l ih => cases l' with
    | nil => simp at hn
    | cons b l' => exact .cons (h 0 a b rfl rfl) (ih (by simpa using hn) fun i a b h1 h2 => h (i + 1) a b (by simpa using h1) (by simpa using h2))
end

theorem beq_ne {i j : Nat} (h : i ≠ j) : Nat.beq i j = false := by
  cases hb : Nat.beq i j with
  | false => rfl
  | true => exact absurd (Nat.eq_of_beq_eq_true hb) h
theorem beq_self (i : Nat) : Nat.beq i i = true := by induction i with
  | zero => rfl
  | succ n ih => exact ih
/-- A slice's headers: its own, and those of the slices within it that are its own. -/
inductive Tr where
  | lf
  | nd (v : Value) (n : Nat) (kids : Nat → Tr)
def Tr.v : Tr → Value
  | .lf => undef
  | .nd v _ _ => v
def Tr.blocks : Tr → List Nat
  | .lf => []
  | .nd v n kids => v.ownBlock.toList ++ (List.range n).flatMap fun i => (kids i).blocks
def Tr.get : Tr → List Nat → Option Tr
  | t, [] => some t
  | .nd _ n kids, i :: q => if i < n then (kids i).get q else none
  | .lf, _ :: _ => none
def Tr.put : Tr → List Nat → Tr → Tr
  | _, [], s => s
  | .nd v n kids, i :: q, s => .nd v n (upd kids i ((kids i).put q s))
  | .lf, _ :: _, _ => .lf
theorem Tr.mem_nd {v : Value} {n : Nat} {kids : Nat → Tr} {k : Nat} : k ∈ (Tr.nd v n kids).blocks ↔ v.ownBlock = some k ∨ ∃ i, i < n ∧ k ∈ (kids i).blocks := by
  simp only [Tr.blocks, List.mem_append, Option.mem_toList, List.mem_flatMap, List.mem_range]
theorem Tr.get_blocks : ∀ {q : List Nat} {t s : Tr}, t.get q = some s → ∀ k ∈ s.blocks, k ∈ t.blocks
  | [], t, s, h, k, hk => by simp only [Tr.get, Option.some.injEq] at h; exact h ▸ hk
  | i :: q, .nd v n kids, s, h, k, hk => by
    simp only [Tr.get] at h
    split at h
    · rename_i hi; exact Tr.mem_nd.2 (.inr ⟨i, hi, Tr.get_blocks h k hk⟩)
    · cases h
  | _ :: _, .lf, _, h, _, _ => by simp [Tr.get] at h
theorem Tr.get_append : ∀ {q p : List Nat} {t : Tr}, t.get (q ++ p) = (t.get q).bind fun s => s.get p
  | [], p, t => by simp [Tr.get]
  | i :: q, p, .nd v n kids => by
    simp only [List.cons_append, Tr.get]
    split
    · exact Tr.get_append
    · rfl
  | _ :: _, _, .lf => by simp [Tr.get]
theorem Tr.put_nil (t s : Tr) : t.put [] s = s := by cases t <;> rfl
theorem Tr.put_blocks : ∀ {q : List Nat} {t s : Tr} {k : Nat}, k ∈ (t.put q s).blocks → k ∈ s.blocks ∨ k ∈ t.blocks
  | [], t, s, k, h => by rw [Tr.put_nil] at h; exact .inl h
  | i :: q, .nd v n kids, s, k, h => by
    simp only [Tr.put] at h
    rcases Tr.mem_nd.1 h with h | ⟨j, hj, h⟩
    · exact .inr (Tr.mem_nd.2 (.inl h))
    · by_cases e : j = i
      · subst e
        simp only [upd, beq_self, cond_true] at h
        exact (Tr.put_blocks h).imp id fun h => Tr.mem_nd.2 (.inr ⟨j, hj, h⟩)
      · simp only [upd, beq_ne e, cond_false] at h
        exact .inr (Tr.mem_nd.2 (.inr ⟨j, hj, h⟩))
  | _ :: _, .lf, s, k, h => .inr h
theorem Tr.get_put : ∀ {q : List Nat} {t s s0 : Tr}, t.get q = some s0 → (t.put q s).get q = some s
  | [], t, s, s0, _ => by rw [Tr.put_nil]; simp [Tr.get]
  | i :: q, .nd v n kids, s, s0, h => by
    simp only [Tr.get] at h
    simp only [Tr.put, Tr.get]
    split at h
    · rename_i hi; rw [if_pos hi]; simp only [upd, beq_self, cond_true]; exact Tr.get_put h
    · cases h
  | _ :: _, .lf, _, _, h => by simp [Tr.get] at h

/-- What a name in the abstract memory stands for: a variable's block; a slice's headers. -/
structure GE where
  blk : Nat
  tr : Tr
/-- What the names in memory stand for; and the blocks that are not this call's to read. -/
structure GM where
  e : Nat → GE
  ex : Nat → Prop
instance : CoeFun GM (fun _ => Nat → GE) := ⟨GM.e⟩
theorem cell_eq {w w' : World} {a : Addr} (h : w'.heap[a.block]? = w.heap[a.block]?) : w'.cell? a = w.cell? a := by
  unfold World.cell?; rw [h]
theorem add_block (a : Addr) (n : Nat) : (a.add n).block = a.block := by unfold Addr.add; split <;> rfl

/-- Plain data, read in memory that is left alone. -/
def Rd (w : World) (ok : Nat → Prop) : (e : ET) → e.ty → List Value → Prop
  | .int k, x, cs => cs = [.int k x]
  | .bool, x, cs => cs = [.bool x]
  | .str, x, cs => cs = [.string x] ∧ x.size ≤ maxLen
  | .sl _ e, xs, cs => ∃ A n c, cs = [.slice A n c] ∧ xs.length = n ∧ n ≤ c ∧
      ∀ (i : Nat) (x : e.ty), xs[i]? = some x → ∃ a vs, A = some a ∧ ok a.block ∧ Rd w ok e x vs ∧ ∀ j u, vs[j]? = some u → w.cell? (a.add (i * e.sz + j)) = some u
  | .pr a b, x, cs => ∃ c1 c2, cs = c1 ++ c2 ∧ Rd w ok a x.1 c1 ∧ Rd w ok b x.2 c2

def Ext (w : World) (ok : Nat → Prop) (w' : World) (ok' : Nat → Prop) : Prop := ∀ k, ok k → ok' k ∧ w'.heap[k]? = w.heap[k]?

theorem Rd.mono {w w' : World} {ok ok' : Nat → Prop} (hx : Ext w ok w' ok') : ∀ {e : ET} {x : e.ty} {cs : List Value}, Rd w ok e x cs → Rd w' ok' e x cs := by
  intro e
  induction e with
  | int k => intro x cs h; exact h
  | bool => intro x cs h; exact h
  | str => intro x cs h; exact h
  | sl T e ih =>
    rintro xs cs ⟨A, n, c, h1, h2, h3, h4⟩
    refine ⟨A, n, c, h1, h2, h3, fun i x hi => ?_⟩
    obtain ⟨a, vs, ha, hok, hr, hc⟩ := h4 i x hi
    refine ⟨a, vs, ha, (hx _ hok).1, ih hr, fun j u hj => ?_⟩
    rw [cell_eq (w := w) (w' := w') (by rw [add_block]; exact (hx _ hok).2)]
    exact hc j u hj
  | pr a b iha ihb =>
    rintro x cs ⟨c1, c2, h1, h2, h3⟩
    exact ⟨c1, c2, h1, iha h2, ihb h3⟩

theorem Rd.len {w : World} {ok : Nat → Prop} : ∀ {e : ET} {x : e.ty} {cs : List Value}, Rd w ok e x cs → cs.length = e.sz := by
  intro e
  induction e with
  | int k => intro x cs h; simp only [Rd] at h; simp [h, ET.sz]
  | bool => intro x cs h; simp only [Rd] at h; simp [h, ET.sz]
  | str => intro x cs h; simp only [Rd] at h; simp [h.1, ET.sz]
  | sl T e ih => rintro xs cs ⟨A, n, c, h1, _⟩; simp [h1, ET.sz]
  | pr a b iha ihb => rintro x cs ⟨c1, c2, h1, h2, h3⟩; simp [h1, iha h2, ihb h3, ET.sz]

theorem Rd.one {w : World} {ok : Nat → Prop} : ∀ {e : ET} {x : e.ty} {cs : List Value}, Rd w ok e x cs → ∀ u ∈ cs, u.oneCell' = true := by
  intro e
  induction e with
  | int k => intro x cs h u hu; simp only [Rd] at h; subst h; simp at hu; subst hu; rfl
  | bool => intro x cs h u hu; simp only [Rd] at h; subst h; simp at hu; subst hu; rfl
  | str => intro x cs h u hu; simp only [Rd] at h; obtain ⟨h, _⟩ := h; subst h; simp at hu; subst hu; rfl
  | sl T e ih => rintro xs cs ⟨A, n, c, h1, _⟩ u hu; subst h1; simp at hu; subst hu; rfl
  | pr a b iha ihb =>
    rintro x cs ⟨c1, c2, h1, h2, h3⟩ u hu
    subst h1
    rcases List.mem_append.1 hu with hu | hu
    · exact iha h2 u hu
    · exact ihb h3 u hu

def RA (w : World) (ok : Nat → Prop) : AV → Value → Prop
  | .d e x, v => Rd w ok e x [v]
  | _, _ => False

/-- A slice of the call's own, down to a depth. -/
def Own (w : World) (ok : Nat → Prop) : Nat → (e : ET) → e.ty → Tr → Value → Prop
  | 0, e, x, t, v => t = .lf ∧ Rd w ok e x [v]
  | d + 1, .sl T e, xs, t, v => ∃ n kids cs, t = .nd v n kids ∧ xs.length = n ∧ w.ownsRow 0 T 1 v n cs ∧
      (∀ (i : Nat) (x : e.ty) (c : Value), xs[i]? = some x → cs[i]? = some c → Own w ok d e x (kids i) c) ∧
      (∀ i, i < n → ∀ k ∈ (kids i).blocks, v.ownBlock ≠ some k) ∧ (∀ i j k, i < n → j < n → k ∈ (kids i).blocks → k ∈ (kids j).blocks → i = j)
  | _ + 1, .int k, x, t, v => t = .lf ∧ Rd w ok (.int k) x [v]
  | _ + 1, .bool, x, t, v => t = .lf ∧ Rd w ok .bool x [v]
  | _ + 1, .str, x, t, v => t = .lf ∧ Rd w ok .str x [v]
  | _ + 1, .pr a b, x, t, v => t = .lf ∧ Rd w ok (.pr a b) x [v]
section
variable {w w' : World} {ok ok' : Nat → Prop}
theorem Own.leaf {d : Nat} {e : ET} {x : e.ty} {t : Tr} {v : Value} (hl : d = 0 ∨ e.isSl = false) : Own w ok d e x t v ↔ t = .lf ∧ Rd w ok e x [v] := by
  cases d with
  | zero => cases e <;> exact Iff.rfl
  | succ d => cases e <;> first | exact Iff.rfl | (rcases hl with h | h <;> cases h)
theorem row_keep {T n : Nat} {v : Value} {cs : List Value} (hb : ∀ k, v.ownBlock = some k → w'.heap[k]? = w.heap[k]?) (ho : w.ownsRow 0 T 1 v n cs) : w'.ownsRow 0 T 1 v n cs := by
  obtain ⟨h1, h2⟩ := ho
  refine ⟨h1, ?_⟩
  rcases h2 with h2 | ⟨b, cap, cur, rfl, hb2, hh, r⟩
  · exact .inl h2
  · exact .inr ⟨b, cap, cur, rfl, hb2, (hb b rfl).trans hh, r⟩
theorem Own.mono (hx : Ext w ok w' ok') : ∀ {d : Nat} {e : ET} {x : e.ty} {t : Tr} {v : Value}, (∀ k ∈ t.blocks, w'.heap[k]? = w.heap[k]?) → Own w ok d e x t v → Own w' ok' d e x t v := by
  intro d
  induction d with
  | zero => intro e x t v _ h; have h := (Own.leaf (.inl rfl)).1 h; exact (Own.leaf (.inl rfl)).2 ⟨h.1, Rd.mono hx h.2⟩
  | succ d ih =>
    intro e x t v hb h
    cases e with
    | sl T e =>
      obtain ⟨n, kids, cs, rfl, h1, h2, h3, h4⟩ := h
      exact ⟨n, kids, cs, rfl, h1, row_keep (fun k hk => hb k (Tr.mem_nd.2 (.inl hk))) h2, fun i x c hi hc => ih (fun k hk => hb k (Tr.mem_nd.2 (.inr ⟨i, h1 ▸ (List.getElem?_eq_some_iff.1 hi).1, hk⟩))) (h3 i x c hi hc), h4⟩
    | int k => exact ⟨h.1, Rd.mono hx h.2⟩
    | bool => exact ⟨h.1, Rd.mono hx h.2⟩
    | str => exact ⟨h.1, Rd.mono hx h.2⟩
    | pr a b => exact ⟨h.1, Rd.mono hx h.2⟩
/-- It is plain data, once its blocks may be read. -/
theorem Own.toRd (hx : ∀ k, ok k → ok' k) : ∀ {d : Nat} {e : ET} {x : e.ty} {t : Tr} {v : Value}, (∀ k ∈ t.blocks, ok' k) → Own w ok d e x t v → Rd w ok' e x [v] := by
  have hx' : Ext w ok w ok' := fun k hk => ⟨hx k hk, rfl⟩
  intro d
  induction d with
  | zero => intro e x t v _ h; exact Rd.mono hx' ((Own.leaf (.inl rfl)).1 h).2
  | succ d ih =>
    intro e x t v hb h
    cases e with
    | sl T e =>
      obtain ⟨n, kids, cs, rfl, h1, h2, h3, _⟩ := h
      have hlen : cs.length = n := by have := h2.1; simpa using this
      have ho := h2
      rcases h2.2 with ⟨rfl, h0⟩ | ⟨b, cap, cur, rfl, _, hh, hc, _⟩
      · refine ⟨none, 0, 0, rfl, by omega, Nat.le_refl _, fun i x hi => ?_⟩
        have := (List.getElem?_eq_some_iff.1 hi).1; omega
      · refine ⟨some ⟨b, 0, none⟩, n, cap, rfl, h1, hc, fun i x hi => ?_⟩
        have hin : i < n := h1 ▸ (List.getElem?_eq_some_iff.1 hi).1
        have hci : cs[i]? = some cs[i] := List.getElem?_eq_getElem (by omega)
        have hr := ih (fun k hk => hb k (Tr.mem_nd.2 (.inr ⟨i, hin, hk⟩))) (h3 i x _ hi hci)
        have hsz : e.sz = 1 := hr.len.symm
        refine ⟨⟨b, 0, none⟩, [cs[i]], rfl, hb b (Tr.mem_nd.2 (.inl rfl)), hr, fun j u hj => ?_⟩
        match j, hj with
        | 0, hj =>
          simp at hj; subst hj
          rw [hsz, Nat.mul_one, Nat.add_zero]
          exact ho.cells (g := b) rfl i _ hci
    | int k => exact Rd.mono hx' h.2
    | bool => exact Rd.mono hx' h.2
    | str => exact Rd.mono hx' h.2
    | pr a b => exact Rd.mono hx' h.2
theorem Own.one {d : Nat} {e : ET} {x : e.ty} {t : Tr} {v : Value} (h : Own w ok d e x t v) : v.oneCell' = true := by
  have leaf : Rd w ok e x [v] → v.oneCell' = true := fun h => h.one v (List.mem_singleton.2 rfl)
  cases d with
  | zero => exact leaf ((Own.leaf (.inl rfl)).1 h).2
  | succ d =>
    cases e with
    | sl T e =>
      obtain ⟨n, kids, cs, rfl, h1, h2, _⟩ := h
      rcases h2.2 with ⟨rfl, _⟩ | ⟨b, cap, cur, rfl, _⟩ <;> rfl
    | _ => exact leaf h.2
theorem getD_of {α : Type} {l : List α} {i : Nat} {x d : α} (h : l[i]? = some x) : l.getD i d = x := by simp [List.getD, h]
theorem Own.lf {d : Nat} {e : ET} {x : e.ty} {v v' : Value} {n : Nat} {kids : Nat → Tr} (h : Own w ok d e x (.nd v' n kids) v) : ∃ d' T e', d = d' + 1 ∧ e = .sl T e' ∧ v' = v := by
  cases d with
  | zero => have := ((Own.leaf (.inl rfl)).1 h).1; cases this
  | succ d =>
    cases e with
    | sl T e => obtain ⟨_, _, _, h, _⟩ := h; injection h with h; exact ⟨d, T, e, rfl, rfl, h⟩
    | _ => exact absurd h.1 (by simp)
/-- What lies at a path. -/
theorem Own.get : ∀ (q : List Nat) {d : Nat} {e : ET} {x : e.ty} {t : Tr} {v : Value}, Own w ok d e x t v → ∀ {v' : Value} {n : Nat} {kids : Nat → Tr}, t.get q = some (.nd v' n kids) →
    ∃ T' e', ∃ ys : List (ET.ty e'), getP e x q = some ⟨.sl T' e', ys⟩ ∧ q.length < d ∧ Own w ok (d - q.length) (.sl T' e') ys (.nd v' n kids) v'
  | [], d, e, x, t, v, h, v', n, kids, hg => by
    simp only [Tr.get, Option.some.injEq] at hg
    subst hg
    obtain ⟨d', T, e', rfl, rfl, rfl⟩ := h.lf
    exact ⟨T, e', x, rfl, Nat.succ_pos _, h⟩
  | i :: q, d, e, x, .lf, v, h, v', n, kids, hg => by simp [Tr.get] at hg
  | i :: q, d, e, x, .nd v0 n0 kids0, v, h, v', n, kids, hg => by
    obtain ⟨d', T, e', rfl, rfl, rfl⟩ := h.lf
    obtain ⟨n1, kids1, cs, ht, h1, h2, h3, _⟩ := h
    injection ht with _ ht1 ht2
    subst ht1; subst ht2
    simp only [Tr.get] at hg
    split at hg
    · rename_i hi
      have hlen : cs.length = n0 := by have := h2.1; simpa using this
      have hxi : x[i]? = some x[i] := List.getElem?_eq_getElem (by omega)
      have hci : cs[i]? = some cs[i] := List.getElem?_eq_getElem (by omega)
      obtain ⟨T', e2, ys, h4, h5, h6⟩ := Own.get q (h3 i _ _ hxi hci) hg
      refine ⟨T', e2, ys, ?_, by simp; omega, ?_⟩
      · simp only [getP]; rw [getD_of hxi]; exact h4
      · have : d' + 1 - (i :: q).length = d' - q.length := by simp
        rw [this]; exact h6
    · cases hg
/-- What lies at a path is another. -/
theorem Own.put (hx : Ext w ok w' ok') : ∀ (q : List Nat) {d : Nat} {e : ET} {x : e.ty} {t : Tr} {v : Value}, Own w ok d e x t v → ∀ {v' : Value} {n : Nat} {kids : Nat → Tr}, t.get q = some (.nd v' n kids) →
    ∀ {T' : Nat} {e' : ET} {ys : List e'.ty}, getP e x q = some ⟨.sl T' e', ys⟩ → ∀ {s : Tr} {zs : List e'.ty}, Own w' ok' (d - q.length) (.sl T' e') zs s v' →
    (∀ k ∈ s.blocks, k ∈ (Tr.nd v' n kids).blocks ∨ k ∉ t.blocks) → (∀ k ∈ t.blocks, k ∉ (Tr.nd v' n kids).blocks → w'.heap[k]? = w.heap[k]?) →
    ∃ z, setP e x q (.sl T' e') zs = some z ∧ Own w' ok' d e z (t.put q s) v
  | [], d, e, x, t, v, h, v', n, kids, hg, T', e', ys, hp, s, zs, hs, _, _ => by
    simp only [Tr.get, Option.some.injEq] at hg
    subst hg
    simp only [getP, Option.some.injEq] at hp
    obtain ⟨d', T, e2, rfl, rfl, rfl⟩ := h.lf
    injection hp with hp1 hp2
    injection hp1 with hp3 hp4
    subst hp3; subst hp4
    refine ⟨zs, by simp [setP], hs⟩
  | i :: q, d, e, x, .lf, v, h, v', n, kids, hg, T', e', ys, hp, s, zs, hs, _, _ => by simp [Tr.get] at hg
  | i :: q, d, e, x, .nd v0 n0 kids0, v, h, v', n, kids, hg, T', e', ys, hp, s, zs, hs, hsb, hw => by
    obtain ⟨d', T, e2, rfl, rfl, rfl⟩ := h.lf
    obtain ⟨n1, kids1, cs, ht, h1, h2, h3, h4, h5⟩ := h
    injection ht with _ ht1 ht2
    subst ht1; subst ht2
    simp only [Tr.get] at hg
    split at hg
    · rename_i hi
      have hlen : cs.length = n0 := by have := h2.1; simpa using this
      have hxi : x[i]? = some x[i] := List.getElem?_eq_getElem (by omega)
      have hci : cs[i]? = some cs[i] := List.getElem?_eq_getElem (by omega)
      simp only [getP] at hp
      rw [getD_of hxi] at hp
      have hd : d' + 1 - (i :: q).length = d' - q.length := by simp
      rw [hd] at hs
      have hold : ∀ k ∈ (Tr.nd v' n kids).blocks, k ∈ (kids0 i).blocks := Tr.get_blocks hg
      obtain ⟨z, hz, ho⟩ := Own.put hx q (h3 i _ _ hxi hci) hg hp hs (fun k hk => (hsb k hk).imp id fun h hm => h (Tr.mem_nd.2 (.inr ⟨i, hi, hm⟩))) (fun k hk hn => hw k (Tr.mem_nd.2 (.inr ⟨i, hi, hk⟩)) hn)
      have hput : ∀ k, k ∈ ((kids0 i).put q s).blocks → k ∈ (kids0 i).blocks ∨ k ∉ (Tr.nd v0 n0 kids0).blocks := fun k hk => by
        rcases Tr.put_blocks hk with h | h
        · exact (hsb k h).imp (hold k) id
        · exact .inl h
      refine ⟨x.set i z, ?_, n0, upd kids0 i ((kids0 i).put q s), cs, rfl, by simpa using h1, row_keep (fun k hk => hw k (Tr.mem_nd.2 (.inl hk)) fun hm => h4 i hi k (hold k hm) hk) h2, fun j y c hj hc => ?_, fun j hj k hk => ?_, fun j j' k hj hj' hk hk' => ?_⟩
      · simp only [setP]; rw [getD_of hxi, hz]
      · by_cases e : j = i
        · subst e
          rw [hci] at hc; injection hc with hc; subst hc
          rw [List.getElem?_set_self (by omega)] at hj; injection hj with hj; subst hj
          simp only [upd, beq_self, cond_true]; exact ho
        · rw [List.getElem?_set_ne (Ne.symm e)] at hj
          simp only [upd, beq_ne e, cond_false]
          refine Own.mono hx (fun k hk => hw k ?_ fun hm => ?_) (h3 j y c hj hc)
          · exact Tr.mem_nd.2 (.inr ⟨j, h1 ▸ (List.getElem?_eq_some_iff.1 hj).1, hk⟩)
          · exact e (h5 j i k (h1 ▸ (List.getElem?_eq_some_iff.1 hj).1) hi hk (hold k hm))
      · by_cases e : j = i
        · subst e
          simp only [upd, beq_self, cond_true] at hk
          rcases hput k hk with h | h
          · exact h4 j hj k h
          · exact fun hv => h (Tr.mem_nd.2 (.inl hv))
        · simp only [upd, beq_ne e, cond_false] at hk
          exact h4 j hj k hk
      · have key : ∀ j k, j < n0 → k ∈ (upd kids0 i ((kids0 i).put q s) j).blocks → k ∈ (kids0 j).blocks ∨ (j = i ∧ k ∉ (Tr.nd v0 n0 kids0).blocks) := fun j k hj hk => by
          by_cases e : j = i
          · subst e
            simp only [upd, beq_self, cond_true] at hk
            exact (hput k hk).imp id fun h => ⟨rfl, h⟩
          · simp only [upd, beq_ne e, cond_false] at hk
            exact .inl hk
        rcases key j k hj hk with h | ⟨e1, h⟩ <;> rcases key j' k hj' hk' with h' | ⟨e2, h'⟩
        · exact h5 j j' k hj hj' h h'
        · exact absurd (Tr.mem_nd.2 (.inr ⟨j, hj, h⟩)) h'
        · exact absurd (Tr.mem_nd.2 (.inr ⟨j', hj', h'⟩)) h
        · rw [e1, e2]
    · cases hg
end

/-- One cell, or an array. -/
def R0 (w : World) (ok : Nat → Prop) (m : Nat → ME) (g : GM) : AV → Value → Prop
  | .d e x, v => Rd w ok e x [v]
  | .arr e n xs, v => ∃ vs, v = .agg vs ∧ xs.length = n ∧ All2 (fun x c => Rd w ok e x [c]) xs vs.toList
  | .ptr id off, v => v = .pointer (some ⟨(g id).blk, off, none⟩) ∧ ((∃ l, m id = .box l) ∨ ∃ e n xs, m id = .arr e n xs)
  | .iptr l, v => ∃ a vs, v = .pointer (some a) ∧ ok a.block ∧ All2 (RA w ok) l vs ∧ ∀ j u, vs[j]? = some u → w.cell? (a.add j) = some u
  | .ref id q, v => (∃ T e dp xs, m id = .obj T e dp xs) ∧ ∃ n kids, (g id).tr.get q = some (.nd v n kids)
  | .eptr id q i, v => ((∃ T e dp xs, m id = .obj T e dp xs) ∧ ∃ b c n kids, (g id).tr.get q = some (.nd (.slice (some ⟨b, 0, none⟩) n c) n kids) ∧ i < n ∧ v = .pointer (some ⟨b, i, none⟩)) ∨
      (q = [] ∧ (∃ e n xs, m id = .arr e n xs ∧ i < n) ∧ v = .pointer (some ⟨(g id).blk, i, none⟩))
  | .nilS _ _, v => v = .slice none 0 0
  | .nilI, v => v = .nilIface
  | .skip, v => v = undef
  | .undef, _ => True
  | _, _ => False
/-- What a function value has captured: variables, or what they hold. -/
def RC (w : World) (ok : Nat → Prop) (m : Nat → ME) (g : GM) (x : AV) (v : Value) : Prop := x.isCap = true ∧ R0 w ok m g x v
def R1 (w : World) (ok : Nat → Prop) (m : Nat → ME) (g : GM) : AV → Value → Prop
  | .fn f l, v => ∃ vs, v = .func (.func f) #[] vs ∧ All2 (RC w ok m g) l vs.toList
  | x, v => R0 w ok m g x v
def R2 (w : World) (ok : Nat → Prop) (m : Nat → ME) (g : GM) : AV → Value → Prop
  | .agg l, v => ∃ vs, v = .agg vs ∧ All2 (R1 w ok m g) l vs.toList
  | x, v => R1 w ok m g x v
def R3 (w : World) (ok : Nat → Prop) (m : Nat → ME) (g : GM) : AV → Value → Prop
  | .tup l, v => ∃ vs, v = .tuple vs ∧ All2 (R2 w ok m g) l vs.toList
  | x, v => R2 w ok m g x v

/-- A name is what it was, as far as references to it go. -/
structure Sim (m : Nat → ME) (g : GM) (m' : Nat → ME) (g' : GM) (id : Nat) : Prop where
  box : ∀ l, m id = .box l → (∃ l', m' id = .box l') ∧ (g' id).blk = (g id).blk
  arr : ∀ e n xs, m id = .arr e n xs → (∃ xs', m' id = .arr e n xs') ∧ (g' id).blk = (g id).blk
  obj : ∀ T e dp xs, m id = .obj T e dp xs → (∃ xs', m' id = .obj T e dp xs') ∧ (g' id).tr = (g id).tr
section
variable {w w' : World} {ok ok' : Nat → Prop} {m m' : Nat → ME} {g g' : GM}
theorem Sim.of_eq {id : Nat} (hm : m' id = m id) (hg : g' id = g id) : Sim m g m' g' id :=
  ⟨fun l h => ⟨⟨l, hm.trans h⟩, by rw [hg]⟩, fun e n xs h => ⟨⟨xs, hm.trans h⟩, by rw [hg]⟩, fun T e dp xs h => ⟨⟨xs, hm.trans h⟩, by rw [hg]⟩⟩
theorem Sim.lift {id : Nat} {f : AV → AV} (hm : m' id = liftM f (m id)) (hg : g' id = g id) : Sim m g m' g' id :=
  ⟨fun l h => ⟨⟨l.map (lift1 f), by rw [hm, h]; rfl⟩, by rw [hg]⟩, fun e n xs h => ⟨⟨xs, by rw [hm, h]; rfl⟩, by rw [hg]⟩, fun T e dp xs h => ⟨⟨xs, by rw [hm, h]; rfl⟩, by rw [hg]⟩⟩
theorem RA.mono (hx : Ext w ok w' ok') {x : AV} {v : Value} (h : RA w ok x v) : RA w' ok' x v := by
  cases x <;> simp only [RA] at h ⊢ <;> first | exact Rd.mono hx h | exact h
theorem R0.sim (hx : Ext w ok w' ok') {x : AV} {v : Value} (hs : ∀ id, x.id? = some id → Sim m g m' g' id) (h : R0 w ok m g x v) : R0 w' ok' m' g' x v := by
  cases x with
  | d e x => exact Rd.mono hx h
  | arr e n xs => obtain ⟨vs, h1, h2, h3⟩ := h; exact ⟨vs, h1, h2, h3.mono fun _ _ => Rd.mono hx⟩
  | ptr id off =>
    obtain ⟨h1, h2⟩ := h
    have hs := hs id rfl
    rcases h2 with ⟨l, h2⟩ | ⟨e, n, xs, h2⟩
    · obtain ⟨h3, h4⟩ := hs.box l h2; exact ⟨by rw [h4]; exact h1, .inl h3⟩
    · obtain ⟨h3, h4⟩ := hs.arr e n xs h2; exact ⟨by rw [h4]; exact h1, .inr ⟨e, n, h3⟩⟩
  | iptr l =>
    obtain ⟨a, vs, h1, h2, h3, h4⟩ := h
    exact ⟨a, vs, h1, (hx _ h2).1, h3.mono (fun _ _ => RA.mono hx), fun j u hj => by rw [cell_eq (w := w) (w' := w') (by rw [add_block]; exact (hx _ h2).2)]; exact h4 j u hj⟩
  | ref id q =>
    obtain ⟨⟨T, e, dp, xs, h1⟩, h3⟩ := h
    obtain ⟨⟨xs', h4⟩, h5⟩ := (hs id rfl).obj T e dp xs h1
    exact ⟨⟨T, e, dp, xs', h4⟩, by rw [h5]; exact h3⟩
  | eptr id q i =>
    rcases h with ⟨⟨T, e, dp, xs, h1⟩, h3⟩ | ⟨rfl, ⟨e, n, xs, h1, h2⟩, h3⟩
    · obtain ⟨⟨xs', h4⟩, h5⟩ := (hs id rfl).obj T e dp xs h1
      exact .inl ⟨⟨T, e, dp, xs', h4⟩, by rw [h5]; exact h3⟩
    · obtain ⟨⟨xs', h4⟩, h5⟩ := (hs id rfl).arr e n xs h1
      exact .inr ⟨rfl, ⟨e, n, xs', h4, h2⟩, by rw [h5]; exact h3⟩
  | nilS T e => exact h
  | nilI => exact h
  | skip => exact h
  | undef => trivial
  | agg l => exact h.elim
  | tup l => exact h.elim
  | fn f l => exact h.elim
theorem R0.mono (hx : Ext w ok w' ok') {x : AV} {v : Value} (h : R0 w ok m g x v) : R0 w' ok' m g x v := R0.sim hx (fun _ _ => Sim.of_eq rfl rfl) h
theorem RC.to0 {x : AV} {v : Value} (h : RC w ok m g x v) : R0 w ok m g x v := h.2
theorem R1.of0 {x : AV} {v : Value} (h : R0 w ok m g x v) : R1 w ok m g x v := by cases x <;> simp only [R0, R1] at h ⊢ <;> first | exact h | exact h.elim
theorem R2.of1 {x : AV} {v : Value} (h : R1 w ok m g x v) : R2 w ok m g x v := by cases x <;> simp only [R0, R1, R2] at h ⊢ <;> first | exact h | exact h.elim
theorem R3.of2 {x : AV} {v : Value} (h : R2 w ok m g x v) : R3 w ok m g x v := by cases x <;> simp only [R0, R1, R2, R3] at h ⊢ <;> first | exact h | exact h.elim
theorem R3.of0 {x : AV} {v : Value} (h : R0 w ok m g x v) : R3 w ok m g x v := .of2 (.of1 (.of0 h))
theorem R3.of1 {x : AV} {v : Value} (h : R1 w ok m g x v) : R3 w ok m g x v := .of2 (.of1 h)
/-- Every reference becomes what f makes of it. -/
theorem R1.lift {f : AV → AV} (hf : ∀ x v, R0 w ok m g x v → R0 w' ok' m' g' (f x) v) {x : AV} {v : Value} (h : R1 w ok m g x v) : R1 w' ok' m' g' (lift1 f x) v := by
  cases x <;> simp only [R1] at h <;> first | exact R1.of0 (hf _ _ h) | skip
  rename_i F l
  obtain ⟨vs, h1, h2⟩ := h
  simp only [lift1]
  cases hc : (l.map f).all AV.isCap with
  | false => exact trivial
  | true =>
    refine ⟨vs, h1, All2.of_get (by simpa using h2.length) fun i x u hi hu => ?_⟩
    rw [List.getElem?_map] at hi
    obtain ⟨y, hy, hyx⟩ := Option.map_eq_some_iff.1 hi
    subst hyx
    obtain ⟨u', hu', hr⟩ := h2.get i y hy
    rw [hu] at hu'; injection hu' with hu'; subst hu'
    exact ⟨List.all_eq_true.1 hc _ (List.mem_map.2 ⟨y, List.mem_of_getElem? hy, rfl⟩), hf _ _ hr.2⟩
theorem R2.lift {f : AV → AV} (hf : ∀ x v, R0 w ok m g x v → R0 w' ok' m' g' (f x) v) {x : AV} {v : Value} (h : R2 w ok m g x v) : R2 w' ok' m' g' (lift2 f x) v := by
  cases x <;> simp only [R2] at h <;> first | exact R2.of1 (R1.lift hf h) | skip
  obtain ⟨vs, h1, h2⟩ := h
  exact ⟨vs, h1, h2.map (f := lift1 f) fun _ _ h => R1.lift hf h⟩
theorem R3.lift {f : AV → AV} (hf : ∀ x v, R0 w ok m g x v → R0 w' ok' m' g' (f x) v) {x : AV} {v : Value} (h : R3 w ok m g x v) : R3 w' ok' m' g' (lift3 f x) v := by
  cases x <;> simp only [R3] at h <;> first | exact R3.of2 (R2.lift hf h) | skip
  obtain ⟨vs, h1, h2⟩ := h
  exact ⟨vs, h1, h2.map (f := lift2 f) fun _ _ h => R2.lift hf h⟩
theorem R1.map0 (hf : ∀ x v, R0 w ok m g x v → R0 w' ok' m' g' x v) {x : AV} {v : Value} (h : R1 w ok m g x v) : R1 w' ok' m' g' x v := by
  cases x <;> simp only [R1] at h ⊢ <;> first | exact hf _ _ h | (obtain ⟨vs, h1, h2⟩ := h; exact ⟨vs, h1, h2.mono fun _ _ h => ⟨h.1, hf _ _ h.2⟩⟩)
theorem R2.map0 (hf : ∀ x v, R0 w ok m g x v → R0 w' ok' m' g' x v) {x : AV} {v : Value} (h : R2 w ok m g x v) : R2 w' ok' m' g' x v := by
  cases x <;> simp only [R2] at h ⊢ <;> first | exact R1.map0 hf h | (obtain ⟨vs, h1, h2⟩ := h; exact ⟨vs, h1, h2.mono fun _ _ h => R1.map0 hf h⟩)
theorem R3.map0 (hf : ∀ x v, R0 w ok m g x v → R0 w' ok' m' g' x v) {x : AV} {v : Value} (h : R3 w ok m g x v) : R3 w' ok' m' g' x v := by
  cases x <;> simp only [R3] at h ⊢ <;> first | exact R2.map0 hf h | (obtain ⟨vs, h1, h2⟩ := h; exact ⟨vs, h1, h2.mono fun _ _ h => R2.map0 hf h⟩)
theorem R1.mono (hx : Ext w ok w' ok') {x : AV} {v : Value} (h : R1 w ok m g x v) : R1 w' ok' m g x v := R1.map0 (fun _ _ => R0.mono hx) h
theorem R2.mono (hx : Ext w ok w' ok') {x : AV} {v : Value} (h : R2 w ok m g x v) : R2 w' ok' m g x v := R2.map0 (fun _ _ => R0.mono hx) h
theorem R3.mono (hx : Ext w ok w' ok') {x : AV} {v : Value} (h : R3 w ok m g x v) : R3 w' ok' m g x v := R3.map0 (fun _ _ => R0.mono hx) h
end

/-- The blocks that a name in memory stands for. -/
def blks : ME → GE → List Nat
  | .none, _ => []
  | .box _, g => [g.blk]
  | .arr _ _ _, g => [g.blk]
  | .obj _ _ _ _, g => g.tr.blocks
theorem blks_lift (f : AV → AV) (x : ME) (e : GE) : blks (liftM f x) e = blks x e := by cases x <;> rfl

def okOf (w : World) (m : Nat → ME) (g : GM) (k : Nat) : Prop := k < w.heap.size ∧ ¬ g.ex k ∧ ∀ id, k ∉ blks (m id) (g id)

/-- What is told of a name in memory. -/
def MR (w : World) (ok : Nat → Prop) (m : Nat → ME) (g : GM) : ME → GE → Prop
  | .none, _ => True
  | .box l, e => ∃ vs T, w.heap[e.blk]? = some (.cells vs T (0, 0)) ∧ All2 (R1 w ok m g) l vs.toList
  | .arr k n xs, e => xs.length = n ∧ ∃ vs T, w.heap[e.blk]? = some (.cells vs T (0, 0)) ∧ All2 (fun x c => Rd w ok k x [c]) xs vs.toList
  | .obj T k dp xs, e => Own w ok (dp + 1) (.sl T k) xs e.tr e.tr.v

/-- The state of a call: w0 the world at its beginning, io the blocks of the variables and slices that were handed in to be changed, n the number of slots. -/
structure SR (w0 : World) (io : Nat → Prop) (n : Nat) (S : St) (g : GM) (a : Act) (w : World) : Prop where
  os : w.os = w0.os
  tape : w.tape = w0.tape
  output : w.output = w0.output
  size : w0.heap.size ≤ w.heap.size
  same : ∀ k, k < w0.heap.size → ¬ io k → w.heap[k]? = w0.heap[k]?
  own : ∀ id k, k ∈ blks (S.m id) (g id) → k < w.heap.size ∧ (w0.heap.size ≤ k ∨ io k)
  disj : ∀ id id' k, k ∈ blks (S.m id) (g id) → k ∈ blks (S.m id') (g id') → id = id'
  mem : ∀ id, MR w (okOf w S.m g) S.m g (S.m id) (g id)
  n : a.tmps.size = n
  defers : a.defers = []
  ex : ∀ k, g.ex k → k < w.heap.size
  notex : ∀ id k, k ∈ blks (S.m id) (g id) → ¬ g.ex k
  tmps : ∀ t v, a.tmps[t]? = some v → R3 w (okOf w S.m g) S.m g (S.t t) v

/-- Nothing that was there has been turned: there may be more. -/
structure More (w w' : World) : Prop where
  os : w'.os = w.os
  tape : w'.tape = w.tape
  output : w'.output = w.output
  size : w.heap.size ≤ w'.heap.size
  same : ∀ k, k < w.heap.size → w'.heap[k]? = w.heap[k]?

theorem More.refl (w : World) : More w w := ⟨rfl, rfl, rfl, Nat.le_refl _, fun _ _ => rfl⟩
theorem More.alloc (w : World) (o : Obj) : More w (w.alloc o) := ⟨rfl, rfl, rfl, by simp, fun k hk => Below.heap_alloc w o k hk⟩
theorem More.trans {a b c : World} (h : More a b) (k : More b c) : More a c :=
  ⟨k.os.trans h.os, k.tape.trans h.tape, k.output.trans h.output, Nat.le_trans h.size k.size, fun i hi => (k.same i (Nat.lt_of_lt_of_le hi h.size)).trans (h.same i hi)⟩
theorem More.of_below {w w' : World} (h : Below w.heap.size w w') : More w w' := ⟨h.os, h.tape, h.output, h.size, h.block⟩
theorem More.drew (w : World) : More w { w with drawn := w.drawn + 1 } := ⟨rfl, rfl, rfl, Nat.le_refl _, fun _ _ => rfl⟩
theorem More.ext {w w' : World} (h : More w w') (m : Nat → ME) (g : GM) : Ext w (okOf w m g) w' (okOf w' m g) :=
  fun k hk => ⟨⟨Nat.lt_of_lt_of_le hk.1 h.size, hk.2⟩, h.same k hk.1⟩

section
variable {w w' : World} {ok ok' : Nat → Prop} {m m' : Nat → ME} {g g' : GM}
/-- What is told of a name outlives a change elsewhere. -/
theorem MR.lift {f : AV → AV} (hx : Ext w ok w' ok') (hf : ∀ x v, R0 w ok m g x v → R0 w' ok' m' g' (f x) v) {x : ME} {e : GE}
    (hb : ∀ k, k ∈ blks x e → w'.heap[k]? = w.heap[k]?) (h : MR w ok m g x e) : MR w' ok' m' g' (liftM f x) e := by
  cases x with
  | none => trivial
  | box l =>
    obtain ⟨vs, T, h1, h2⟩ := h
    exact ⟨vs, T, (hb _ (by simp [blks])).trans h1, h2.map (f := lift1 f) fun _ _ h => R1.lift hf h⟩
  | arr k n xs =>
    obtain ⟨h0, vs, T, h1, h2⟩ := h
    exact ⟨h0, vs, T, (hb _ (by simp [blks])).trans h1, h2.mono fun _ _ => Rd.mono hx⟩
  | obj T k dp xs => exact Own.mono hx hb h
theorem MR.map0 (hx : Ext w ok w' ok') (hf : ∀ x v, R0 w ok m g x v → R0 w' ok' m' g' x v) {x : ME} {e : GE}
    (hb : ∀ k, k ∈ blks x e → w'.heap[k]? = w.heap[k]?) (h : MR w ok m g x e) : MR w' ok' m' g' x e := by
  cases x with
  | none => trivial
  | box l =>
    obtain ⟨vs, T, h1, h2⟩ := h
    exact ⟨vs, T, (hb _ (by simp [blks])).trans h1, h2.mono fun _ _ h => R1.map0 hf h⟩
  | arr k n xs =>
    obtain ⟨h0, vs, T, h1, h2⟩ := h
    exact ⟨h0, vs, T, (hb _ (by simp [blks])).trans h1, h2.mono fun _ _ => Rd.mono hx⟩
  | obj T k dp xs => exact Own.mono hx hb h
end

section
variable {w0 : World} {io : Nat → Prop} {n : Nat} {S : St} {g : GM} {a : Act} {w : World}
theorem SR.more {w' : World} (h : SR w0 io n S g a w) (hm : More w w') : SR w0 io n S g a w' := by
  have hx := hm.ext S.m g
  exact ⟨hm.os.trans h.os, hm.tape.trans h.tape, hm.output.trans h.output, Nat.le_trans h.size hm.size, fun k hk hio => (hm.same k (Nat.lt_of_lt_of_le hk h.size)).trans (h.same k hk hio), fun id k hk => ⟨Nat.lt_of_lt_of_le (h.own id k hk).1 hm.size, (h.own id k hk).2⟩, h.disj, fun id => MR.map0 hx (fun _ _ => R0.mono hx) (fun k hk => hm.same k (h.own id k hk).1) (h.mem id), h.n, h.defers, (fun k hk => Nat.lt_of_lt_of_le (h.ex k hk) hm.size), h.notex, fun t v ht => R3.mono hx (h.tmps t v ht)⟩
theorem SR.reput {t0 : Nat} {y : AV} (h : SR w0 io n S g a w) (hy : ∀ v, R3 w (okOf w S.m g) S.m g (S.t t0) v → R3 w (okOf w S.m g) S.m g y v) : SR w0 io n (S.set t0 y) g a w := by
  refine ⟨h.os, h.tape, h.output, h.size, h.same, h.own, h.disj, h.mem, h.n, h.defers, h.ex, h.notex, fun t u ht => ?_⟩
  simp only [St.set, upd]
  by_cases e : t = t0
  · subst e; rw [beq_self]; exact hy u (h.tmps t u ht)
  · rw [beq_ne e]; exact h.tmps t u ht
/-- A slot is written. -/
theorem SR.put (h : SR w0 io n S g a w) (d : Nat) (x : AV) (v : Value)
    (hv : R3 w (okOf w S.m g) S.m g x v) : SR w0 io n (S.set d x) g (a.put (some d) v) w := by
  refine ⟨h.os, h.tape, h.output, h.size, h.same, h.own, h.disj, h.mem, by simp [Act.put, h.n], h.defers, h.ex, h.notex, fun t u ht => ?_⟩
  simp only [Act.put, Array.getElem?_setIfInBounds] at ht
  simp only [St.set, upd]
  by_cases e : d = t
  · subst e
    simp only [↓reduceIte] at ht
    split at ht
    · injection ht with ht; subst ht; simpa using hv
    · cases ht
  · rw [if_neg e] at ht
    have : Nat.beq t d = false := beq_ne (Ne.symm e)
    simpa [this] using h.tmps t u ht

/-- Names are shuffled: the world is as it was, and no name stands for a new block. -/
theorem SR.shuffle {f : AV → AV} {m' : Nat → ME} {g' : GM} (h : SR w0 io n S g a w) (hgx : g'.ex = g.ex) (hb : ∀ id k, k ∈ blks (m' id) (g' id) → ∃ id0, k ∈ blks (S.m id0) (g id0))
    (hdisj : ∀ id id' k, k ∈ blks (m' id) (g' id) → k ∈ blks (m' id') (g' id') → id = id')
    (hall : Ext w (okOf w S.m g) w (okOf w m' g') → (∀ x v, R0 w (okOf w S.m g) S.m g x v → R0 w (okOf w m' g') m' g' (f x) v) ∧ ((∀ x v, R0 w (okOf w S.m g) S.m g x v → R0 w (okOf w m' g') m' g' (f x) v) → ∀ id, MR w (okOf w m' g') m' g' (m' id) (g' id))) :
    SR w0 io n ⟨fun i => lift3 f (S.t i), m'⟩ g' a w := by
  have hx : Ext w (okOf w S.m g) w (okOf w m' g') := fun k hk => ⟨⟨hk.1, by rw [hgx]; exact hk.2.1, fun id hi => by obtain ⟨id0, h0⟩ := hb id k hi; exact hk.2.2 id0 h0⟩, rfl⟩
  obtain ⟨hf, hM⟩ := hall hx
  refine ⟨h.os, h.tape, h.output, h.size, h.same, fun id k hk => ?_, hdisj, hM hf, h.n, h.defers, fun k hk => h.ex k (hgx ▸ hk), fun id k hk => ?_, fun t v ht => R3.lift hf (h.tmps t v ht)⟩
  · obtain ⟨id0, h0⟩ := hb id k hk; exact h.own id0 k h0
  · obtain ⟨id0, h0⟩ := hb id k hk; rw [hgx]; exact h.notex id0 k h0

theorem has_iff {x : AV} {id : Nat} : x.has id = true ↔ x.id? = some id := by
  unfold AV.has
  cases h : x.id? with
  | none => simp
  | some i =>
    simp only [Option.some.injEq]
    exact ⟨fun h => Nat.eq_of_beq_eq_true h, fun h => by rw [h]; exact beq_self _⟩
/-- All that was known by the name 'id' is forgotten. -/
theorem SR.drop (h : SR w0 io n S g a w) (id : Nat) : SR w0 io n (S.act (dropM id S.m)) g a w := by
  have hbj : ∀ j, blks ((dropM id S.m).m j) (g j) = if j = id then [] else blks (S.m j) (g j) := fun j => by
    by_cases e : j = id
    · subst e; simp [dropM, upd, blks]
    · simp [dropM, upd, beq_ne e, e, blks_lift]
  have hsim : ∀ j, j ≠ id → Sim S.m g (dropM id S.m).m g j := fun j hj => Sim.lift (f := dropF id) (by simp [dropM, upd, beq_ne hj]) rfl
  refine h.shuffle rfl (fun j k hk => ⟨j, by rw [hbj] at hk; split at hk <;> simp_all⟩) (fun j j' k hk hk' => h.disj j j' k (by rw [hbj] at hk; split at hk <;> simp_all) (by rw [hbj] at hk'; split at hk' <;> simp_all)) fun hx => ⟨fun x v hr => ?_, fun hf j => ?_⟩
  · unfold dropF
    cases hh : x.has id with
    | true => exact trivial
    | false =>
      have hne : ∀ j, x.id? = some j → j ≠ id := fun j hj e => by rw [e] at hj; rw [has_iff.2 hj] at hh; cases hh
      exact R0.sim hx (fun j hj => hsim j (hne j hj)) hr
  · by_cases e : j = id
    · subst e; simp only [dropM, upd, beq_self, cond_true]; trivial
    · simp only [dropM, upd, beq_ne e, cond_false]; exact MR.lift hx hf (fun _ _ => rfl) (h.mem j)
theorem getP_ref {w : World} {ok : Nat → Prop} {T : Nat} {e : ET} {d : Nat} {xs : List e.ty} {t : Tr} {v : Value} (h : Own w ok d (.sl T e) xs t v) {q : List Nat} {v' : Value} {n : Nat} {kids : Nat → Tr} (hg : t.get q = some (.nd v' n kids)) (ok' : Nat → Prop) (hle : ∀ k, ok k → ok' k) (hok : ∀ k ∈ t.blocks, ok' k) :
    ∃ y : (e' : ET) × e'.ty, getP (.sl T e) xs q = some y ∧ Rd w ok' y.1 y.2 [v'] := by
  obtain ⟨T', e', ys, h1, _, h2⟩ := h.get q hg
  exact ⟨_, h1, h2.toRd hle fun k hk => hok k (Tr.get_blocks hg k hk)⟩
/-- The slice 'id' is plain data from here on. -/
theorem SR.freeze (h : SR w0 io n S g a w) (id : Nat) : SR w0 io n (S.act (freezeM id S.m)) g a w := by
  unfold freezeM
  split
  rotate_left
  · exact h
  rename_i T e dp xs hm
  generalize hF : freezeF id T e xs = F
  have hbj : ∀ j, blks ((upd (fun i => liftM F (S.m i)) id .none) j) (g j) = if j = id then [] else blks (S.m j) (g j) := fun j => by
    by_cases e : j = id
    · subst e; simp [upd, blks]
    · simp [upd, beq_ne e, e, blks_lift]
  have hsim : ∀ j, j ≠ id → Sim S.m g (upd (fun i => liftM F (S.m i)) id .none) g j := fun j hj => Sim.lift (f := F) (by simp [upd, beq_ne hj]) rfl
  have hM := h.mem id
  rw [hm] at hM
  refine h.shuffle rfl (fun j k hk => ⟨j, by rw [hbj] at hk; split at hk <;> simp_all⟩) (fun j j' k hk hk' => h.disj j j' k (by rw [hbj] at hk; split at hk <;> simp_all) (by rw [hbj] at hk'; split at hk' <;> simp_all)) fun hx => ⟨fun x v hr => ?_, fun hf j => ?_⟩
  · have other : F x = x → (∀ j, x.id? = some j → j ≠ id) → R0 w (okOf w (upd (fun i => liftM F (S.m i)) id .none) g) (upd (fun i => liftM F (S.m i)) id .none) g (F x) v := fun h1 h2 => by rw [h1]; exact R0.sim hx (fun j hj => hsim j (h2 j hj)) hr
    cases x with
    | ref i q =>
      by_cases e' : i = id
      · subst e'
        obtain ⟨_, n', kids, hg⟩ := hr
        obtain ⟨y, h1, h2⟩ := getP_ref hM hg (okOf w (upd (fun i => liftM F (S.m i)) i .none) g) (fun k hk => (hx k hk).1) (fun k hk => ⟨(h.own i k (by rw [hm]; exact hk)).1, h.notex i k (by rw [hm]; exact hk), fun j hj => by
          rw [hbj] at hj
          split at hj
          · cases hj
          · rename_i hne; exact hne (h.disj j i k hj (by rw [hm]; exact hk))⟩)
        subst hF
        simp only [freezeF, beq_self, cond_true, h1]
        exact h2
      · exact other (by subst hF; simp [freezeF, beq_ne e']) (by intro j hj; simp [AV.id?] at hj; omega)
    | eptr i q k =>
      by_cases e' : i = id
      · subst e'; subst hF; simp only [freezeF, beq_self, cond_true]; trivial
      · exact other (by subst hF; simp [freezeF, beq_ne e']) (by intro j hj; simp [AV.id?] at hj; omega)
    | ptr i off => exact other (by subst hF; rfl) (by
        intro j hj e'
        simp [AV.id?] at hj
        subst hj; subst e'
        obtain ⟨_, h2⟩ := hr
        rw [hm] at h2
        rcases h2 with ⟨_, h2⟩ | ⟨_, _, _, h2⟩ <;> cases h2)
    | d e x => exact other (by subst hF; rfl) (by intro j hj; simp [AV.id?] at hj)
    | arr e n x => exact other (by subst hF; rfl) (by intro j hj; simp [AV.id?] at hj)
    | iptr l => exact other (by subst hF; rfl) (by intro j hj; simp [AV.id?] at hj)
    | nilS T e => exact other (by subst hF; rfl) (by intro j hj; simp [AV.id?] at hj)
    | nilI => exact other (by subst hF; rfl) (by intro j hj; simp [AV.id?] at hj)
    | skip => exact other (by subst hF; rfl) (by intro j hj; simp [AV.id?] at hj)
    | undef => exact other (by subst hF; rfl) (by intro j hj; simp [AV.id?] at hj)
    | agg l => exact hr.elim
    | tup l => exact hr.elim
    | fn f l => exact hr.elim
  · by_cases e : j = id
    · subst e; simp only [upd, beq_self, cond_true]; trivial
    · simp only [upd, beq_ne e, cond_false]; exact MR.lift hx hf (fun _ _ => rfl) (h.mem j)
theorem isD_nrm {x : AV} (h : x.isD = true) : ∃ e y, nrm x = .d e y := by cases x <;> simp [AV.isD] at h <;> exact ⟨_, _, rfl⟩
theorem R0.nrm {ok : Nat → Prop} {m : Nat → ME} {x : AV} {v : Value} (h : R0 w ok m g x v) : R0 w ok m g (nrm x) v := by
  cases x <;> first | exact h | skip
  simp only [R0] at h
  subst h
  exact ⟨none, 0, 0, rfl, rfl, Nat.le_refl _, fun i x hi => by simp at hi⟩
theorem R1.nrm {ok : Nat → Prop} {m : Nat → ME} {x : AV} {v : Value} (h : R1 w ok m g x v) : R1 w ok m g (nrm x) v := by
  cases x <;> first | exact h | exact R1.of0 (R0.nrm h)
theorem R3.nrm {ok : Nat → Prop} {m : Nat → ME} {x : AV} {v : Value} (h : R3 w ok m g x v) : R3 w ok m g (nrm x) v := by
  cases x <;> first | exact h | exact R3.of0 (R0.nrm h)
theorem All2.allD {ok : Nat → Prop} {m : Nat → ME} {l : List AV} {vs : List Value} (hd : l.all AV.isD = true) (h : All2 (R1 w ok m g) l vs) : All2 (RA w ok) (l.map Go.Proofs.Ytckieogkaodkdaa.V.nrm) vs := by
  induction h with
  | nil => exact .nil
  | @cons x v _ _ h1 _ ih =>
    simp only [List.all_cons, Bool.and_eq_true] at hd
    obtain ⟨e, y, hy⟩ := isD_nrm hd.1
    have := R1.nrm h1
    rw [hy] at this
    exact .cons (by rw [hy]; exact this) (ih hd.2)
theorem add_none0 (b i j : Nat) : (⟨b, i, none⟩ : Addr).add j = ⟨b, i + j, none⟩ := by
  unfold Addr.add; split
  · rename_i h0; subst h0; rfl
  · rfl
/-- The variable 'id' is written no more. -/
theorem SR.still (h : SR w0 io n S g a w) (id : Nat) : SR w0 io n (S.act (stillM id S.m)) g a w := by
  unfold stillM
  split
  rotate_left
  · exact h
  rename_i l hm
  cases hd : l.all AV.isD with
  | false => exact h
  | true =>
  simp only [cond_true]
  generalize hF : stillF id (l.map Go.Proofs.Ytckieogkaodkdaa.V.nrm) = F
  have hbj : ∀ j, blks ((upd (fun i => liftM F (S.m i)) id .none) j) (g j) = if j = id then [] else blks (S.m j) (g j) := fun j => by
    by_cases e : j = id
    · subst e; simp [upd, blks]
    · simp [upd, beq_ne e, e, blks_lift]
  have hsim : ∀ j, j ≠ id → Sim S.m g (upd (fun i => liftM F (S.m i)) id .none) g j := fun j hj => Sim.lift (f := F) (by simp [upd, beq_ne hj]) rfl
  have hM := h.mem id
  rw [hm] at hM
  obtain ⟨vs, T, hh, hl⟩ := hM
  have hblk : (g id).blk ∈ blks (S.m id) (g id) := by rw [hm]; simp [blks]
  refine h.shuffle rfl (fun j k hk => ⟨j, by rw [hbj] at hk; split at hk <;> simp_all⟩) (fun j j' k hk hk' => h.disj j j' k (by rw [hbj] at hk; split at hk <;> simp_all) (by rw [hbj] at hk'; split at hk' <;> simp_all)) fun hx => ⟨fun x v hr => ?_, fun hf j => ?_⟩
  · have other : F x = x → (∀ j, x.id? = some j → j ≠ id) → R0 w (okOf w (upd (fun i => liftM F (S.m i)) id .none) g) (upd (fun i => liftM F (S.m i)) id .none) g (F x) v := fun h1 h2 => by rw [h1]; exact R0.sim hx (fun j hj => hsim j (h2 j hj)) hr
    have noobj : ∀ i, (∃ T e dp xs, S.m i = .obj T e dp xs) → i ≠ id := by
      rintro i ⟨T, e, dp, xs, hi⟩ rfl; rw [hm] at hi; cases hi
    cases x with
    | ptr i off =>
      by_cases e' : i = id
      · subst e'
        subst hF
        simp only [stillF, beq_self, cond_true]
        obtain ⟨hv, _⟩ := hr
        refine ⟨⟨(g i).blk, off, none⟩, vs.toList.drop off, hv, ⟨(h.own i _ hblk).1, h.notex i _ hblk, fun j hj => ?_⟩, ((All2.allD hd hl).mono fun _ _ => RA.mono hx).drop off, fun j u hj => ?_⟩
        · rw [hbj] at hj
          split at hj
          · cases hj
          · rename_i hne; exact hne (h.disj j i _ hj hblk)
        · rw [add_none0]
          simp only [World.cell?, hh, Option.isSome_none, Bool.false_eq_true, if_false]
          rw [List.getElem?_drop] at hj
          simpa using hj
      · exact other (by subst hF; simp [stillF, beq_ne e']) (by intro j hj; simp [AV.id?] at hj; omega)
    | ref i q => exact other (by subst hF; rfl) (by intro j hj; simp [AV.id?] at hj; subst hj; exact noobj _ hr.1)
    | eptr i q k => exact other (by subst hF; rfl) (by
        intro j hj; simp [AV.id?] at hj; subst hj
        rcases hr with hr | ⟨_, ⟨e, n, xs, h1, _⟩, _⟩
        · exact noobj _ hr.1
        · rintro rfl; rw [hm] at h1; cases h1)
    | d e x => exact other (by subst hF; rfl) (by intro j hj; simp [AV.id?] at hj)
    | arr e n x => exact other (by subst hF; rfl) (by intro j hj; simp [AV.id?] at hj)
    | iptr l => exact other (by subst hF; rfl) (by intro j hj; simp [AV.id?] at hj)
    | nilS T e => exact other (by subst hF; rfl) (by intro j hj; simp [AV.id?] at hj)
    | nilI => exact other (by subst hF; rfl) (by intro j hj; simp [AV.id?] at hj)
    | skip => exact other (by subst hF; rfl) (by intro j hj; simp [AV.id?] at hj)
    | undef => exact other (by subst hF; rfl) (by intro j hj; simp [AV.id?] at hj)
    | agg l => exact hr.elim
    | tup l => exact hr.elim
    | fn f l => exact hr.elim
  · by_cases e : j = id
    · subst e; simp only [upd, beq_self, cond_true]; trivial
    · simp only [upd, beq_ne e, cond_false]; exact MR.lift hx hf (fun _ _ => rfl) (h.mem j)
def GM.put (g : GM) (id : Nat) (x : GE) : GM := ⟨upd g.e id x, g.ex⟩
theorem GM.put_self (g : GM) (id : Nat) (x : GE) : (g.put id x) id = x := by simp [GM.put, upd]
theorem GM.put_ne (g : GM) {id j : Nat} (x : GE) (h : j ≠ id) : (g.put id x) j = g j := by simp [GM.put, upd, beq_ne h]
/-- The slice 'id' is called k. -/
theorem SR.ren0 (h : SR w0 io n S g a w) {id k : Nat} (hk : S.m k = .none) : ∃ g', SR w0 io n (S.act (renM0 id k S.m)) g' a w ∧ g'.ex = g.ex ∧ ∀ j, j ≠ k → g' j = g j := by
  unfold renM0
  split
  rotate_left
  · exact ⟨g, h, rfl, fun _ _ => rfl⟩
  rename_i T e dp xs hm
  have hne : id ≠ k := fun e => by rw [e, hk] at hm; cases hm
  refine ⟨g.put k (g id), ?_, rfl, fun j hj => GM.put_ne g _ hj⟩
  generalize hm' : (upd (upd (fun i => liftM (renF id k) (S.m i)) id .none) k (.obj T e dp xs)) = m'
  have hmk : m' k = .obj T e dp xs := by subst hm'; simp [upd]
  have hmi : m' id = .none := by subst hm'; simp [upd, beq_ne hne]
  have hmj : ∀ j, j ≠ k → j ≠ id → m' j = liftM (renF id k) (S.m j) := fun j h1 h2 => by subst hm'; simp [upd, beq_ne h1, beq_ne h2]
  have hbj : ∀ j i, i ∈ blks (m' j) ((g.put k (g id)) j) → (j = k ∧ i ∈ blks (S.m id) (g id)) ∨ (j ≠ k ∧ j ≠ id ∧ i ∈ blks (S.m j) (g j)) := fun j i hj => by
    by_cases e1 : j = k
    · subst e1; rw [hmk, GM.put_self] at hj; exact .inl ⟨rfl, by rw [hm]; exact hj⟩
    · by_cases e2 : j = id
      · subst e2; rw [hmi] at hj; cases hj
      · rw [hmj j e1 e2, GM.put_ne g _ e1, blks_lift] at hj; exact .inr ⟨e1, e2, hj⟩
  refine h.shuffle (f := renF id k) rfl (fun j i hj => ?_) (fun j j' i hj hj' => ?_) fun hx => ⟨fun x v hr => ?_, fun hf j => ?_⟩
  · rcases hbj j i hj with ⟨_, h1⟩ | ⟨_, _, h1⟩ <;> exact ⟨_, h1⟩
  · rcases hbj j i hj with ⟨e1, h1⟩ | ⟨e1, e2, h1⟩ <;> rcases hbj j' i hj' with ⟨e3, h2⟩ | ⟨e3, e4, h2⟩
    · rw [e1, e3]
    · exact absurd (h.disj _ _ i h2 h1) e4
    · exact absurd (h.disj _ _ i h1 h2) e2
    · exact h.disj _ _ i h1 h2
  · have other : renF id k x = x → (∀ j, x.id? = some j → j ≠ id ∧ j ≠ k) → R0 w (okOf w m' (g.put k (g id))) m' (g.put k (g id)) (renF id k x) v := fun h1 h2 => by
      rw [h1]; exact R0.sim hx (fun j hj => Sim.lift (f := renF id k) (hmj j (h2 j hj).2 (h2 j hj).1) (GM.put_ne g _ (h2 j hj).2)) hr
    have live : ∀ {j : Nat}, S.m j ≠ .none → j ≠ k := fun hj e => hj (e ▸ hk)
    cases x with
    | ref i q =>
      by_cases e' : i = id
      · subst e'
        simp only [renF, beq_self, cond_true]
        obtain ⟨_, h2⟩ := hr
        exact ⟨⟨T, e, dp, xs, hmk⟩, by rw [GM.put_self]; exact h2⟩
      · exact other (by simp [renF, beq_ne e']) (by
          intro j hj; simp [AV.id?] at hj; subst hj
          obtain ⟨⟨_, _, _, _, h1⟩, _⟩ := hr
          exact ⟨e', live (by rw [h1]; simp)⟩)
    | eptr i q c =>
      by_cases e' : i = id
      · subst e'
        simp only [renF, beq_self, cond_true]
        rcases hr with ⟨_, h2⟩ | ⟨_, ⟨e, n, xs, h1, _⟩, _⟩
        · exact .inl ⟨⟨T, e, dp, xs, hmk⟩, by rw [GM.put_self]; exact h2⟩
        · rw [hm] at h1; cases h1
      · exact other (by simp [renF, beq_ne e']) (by
          intro j hj; simp [AV.id?] at hj; subst hj
          refine ⟨e', live ?_⟩
          rcases hr with ⟨⟨_, _, _, _, h1⟩, _⟩ | ⟨_, ⟨_, _, _, h1, _⟩, _⟩ <;> (rw [h1]; simp))
    | ptr i off => exact other rfl (by
        intro j hj; simp [AV.id?] at hj; subst hj
        obtain ⟨_, h2⟩ := hr
        refine ⟨?_, live ?_⟩
        · rintro rfl; rw [hm] at h2; rcases h2 with ⟨_, h2⟩ | ⟨_, _, _, h2⟩ <;> cases h2
        · rcases h2 with ⟨_, h2⟩ | ⟨_, _, _, h2⟩ <;> (rw [h2]; simp))
    | d e x => exact other rfl (by intro j hj; simp [AV.id?] at hj)
    | arr e n x => exact other rfl (by intro j hj; simp [AV.id?] at hj)
    | iptr l => exact other rfl (by intro j hj; simp [AV.id?] at hj)
    | nilS T e => exact other rfl (by intro j hj; simp [AV.id?] at hj)
    | nilI => exact other rfl (by intro j hj; simp [AV.id?] at hj)
    | skip => exact other rfl (by intro j hj; simp [AV.id?] at hj)
    | undef => exact other rfl (by intro j hj; simp [AV.id?] at hj)
    | agg l => exact hr.elim
    | tup l => exact hr.elim
    | fn f l => exact hr.elim
  · show MR w _ _ _ (m' j) _
    by_cases e1 : j = k
    · subst e1
      rw [hmk, GM.put_self]
      have := h.mem id
      rw [hm] at this
      exact Own.mono hx (fun _ _ => rfl) this
    · by_cases e2 : j = id
      · subst e2; rw [hmi]; trivial
      · rw [hmj j e1 e2, GM.put_ne g _ e1]; exact MR.lift hx hf (fun _ _ => rfl) (h.mem j)
end
end Go.Proofs.Ytckieogkaodkdaa.V
