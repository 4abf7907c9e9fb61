/- Calls: what a callee is lent, and what comes back. -/
import Derived.Test.YtckieogkaodkdaaWd
set_option linter.unusedVariables false
set_option linter.unusedSimpArgs false
namespace Go.Proofs.Ytckieogkaodkdaa.V
open Go Go.RowKit

/-- How a call stands at its beginning. -/
structure Pre (args : List AV) (m : Nat → ME) (g : GM) (vals : Array Value) (w : World) : Prop where
  rel : All2 (R2 w (okOf w m g) m g) args vals.toList
  mem : ∀ id, MR w (okOf w m g) m g (m id) (g id)
  own : ∀ id k, k ∈ blks (m id) (g id) → k < w.heap.size ∧ ¬ g.ex k
  disj : ∀ id id' k, k ∈ blks (m id) (g id) → k ∈ blks (m id') (g id') → id = id'
  ex : ∀ k, g.ex k → k < w.heap.size
  io : ∀ id, args.length ≤ id → m id = .none
  lend : ∀ id, m id ≠ .none → lendable (m id) = true

def Sames : ME → ME → Prop
  | .box _, y => ∃ l, y = .box l ∧ l.all AV.isD = true
  | .arr e n _, y => ∃ xs' : List e.ty, y = .arr e n xs'
  | .obj T e dp _, y => ∃ xs' : List e.ty, y = .obj T e dp xs'
  | .none, _ => False
/-- How it stands behind it. -/
structure Post (m : Nat → ME) (g : GM) (w : World) (news : List Nat) (x : AV) (m' : Nat → ME) (v : Value) (w' : World) : Prop where
  os : w'.os = w.os
  tape : w'.tape = w.tape
  output : w'.output = w.output
  size : w.heap.size ≤ w'.heap.size
  same : ∀ k, k < w.heap.size → (∀ id, k ∉ blks (m id) (g id)) → w'.heap[k]? = w.heap[k]?
  ex : ∃ g' : GM, g'.ex = g.ex ∧ (∀ id, m id ≠ .none → g' id = g id ∧ Sames (m id) (m' id)) ∧
    (∀ id ∈ news, m id = .none ∧ (∃ T e dp xs, m' id = .obj T e dp xs) ∧ ∀ k, k ∈ blks (m' id) (g' id) → w.heap.size ≤ k ∧ k < w'.heap.size) ∧
    (∀ id, m id = .none → id ∉ news → m' id = .none) ∧ (∀ id id' k, k ∈ blks (m' id) (g' id) → k ∈ blks (m' id') (g' id') → id = id') ∧
    (∀ id, MR w' (okOf w' m' g') m' g' (m' id) (g' id)) ∧ R3 w' (okOf w' m' g') m' g' x v

/-- What becomes of a call, whichever operation makes it. -/
def CallsTo (P : Program) (f : Nat) (vals : Array Value) (w : World) (Po : Value → World → Prop) : Prop :=
  ∀ (o : Oper) (a : Act) (K : Act → World → Prop) (Q : Exit → Act → World → Prop), (∀ v w', Po v w' → K (a.put o.dst v) w') → o.upon P a K Q ((callFunc f vals).run P w)
def CallOK (P : Program) (f : Nat) (s : Spec) : Prop :=
  ∀ args m c a, s args m = some c → c.o = some a → ∀ g vals w, Pre args m g vals w → CallsTo P f vals w fun v w' => Post m g w c.news (c.enc a).1 (c.enc a).2 v w'

theorem beq_true {i j : Nat} (h : Nat.beq i j = true) : i = j := Nat.eq_of_beq_eq_true h
section
variable {w w' : World} {ok ok' : Nat → Prop} {m m' : Nat → ME} {g g' : GM}
theorem all2_flat {l : List AV} {vs : List Value} {p : AV → Bool} {R R' : AV → Value → Prop} (hf : l.all p = true) (hR : ∀ x v, p x = true → R x v → R' x v) (h : All2 R l vs) : All2 R' l vs := by
  induction h with
  | nil => exact .nil
  | cons h1 _ ih => simp only [List.all_cons, Bool.and_eq_true] at hf; exact .cons (hR _ _ hf.1 h1) (ih hf.2)
theorem Rd.flat : ∀ {e : ET}, e.flat = true → ∀ {x : e.ty} {cs : List Value}, Rd w ok e x cs → Rd w' ok' e x cs := by
  intro e
  induction e with
  | int k => intro _ x cs h; exact h
  | bool => intro _ x cs h; exact h
  | str => intro _ x cs h; exact h
  | sl T e ih => intro hf; cases hf
  | pr a b iha ihb =>
    intro hf x cs h
    simp only [ET.flat, Bool.and_eq_true] at hf
    obtain ⟨c1, c2, h1, h2, h3⟩ := h
    exact ⟨c1, c2, h1, iha hf.1 h2, ihb hf.2 h3⟩
theorem Own.flatD : ∀ {d : Nat} {e : ET}, e.flatD d = true → ∀ {x : e.ty} {t : Tr} {v : Value}, (∀ k ∈ t.blocks, w'.heap[k]? = w.heap[k]?) → Own w ok d e x t v → Own w' ok' d e x t v := by
  intro d
  induction d with
  | zero => intro e hf x t v _ h; have h := (Own.leaf (.inl rfl)).1 h; exact (Own.leaf (.inl rfl)).2 ⟨h.1, Rd.flat (by cases e <;> exact hf) h.2⟩
  | succ d ih =>
    intro e hf x t v hb h
    cases e with
    | sl T e =>
      obtain ⟨n, kids, cs, rfl, h1, h2, h3, h4⟩ := h
      exact ⟨n, kids, cs, rfl, h1, row_keep (fun k hk => hb k (Tr.mem_nd.2 (.inl hk))) h2, fun i x c hi hc => ih hf (fun k hk => hb k (Tr.mem_nd.2 (.inr ⟨i, h1 ▸ (List.getElem?_eq_some_iff.1 hi).1, hk⟩))) (h3 i x c hi hc), h4⟩
    | int k => exact ⟨h.1, Rd.flat hf h.2⟩
    | bool => exact ⟨h.1, Rd.flat hf h.2⟩
    | str => exact ⟨h.1, Rd.flat hf h.2⟩
    | pr a b => exact ⟨h.1, Rd.flat hf h.2⟩
/-- What speaks of no block holds whichever blocks may be read. -/
theorem R0.flat {x : AV} {v : Value} (hf : x.flat0 = true) (hs : ∀ id, x.id? = some id → Sim m g m' g' id) (h : R0 w ok m g x v) : R0 w' ok' m' g' x v := by
  cases x <;> simp only [AV.flat0, Bool.false_eq_true] at hf
  · exact Rd.flat hf h
  · obtain ⟨vs, h1, h2, h3⟩ := h; exact ⟨vs, h1, h2, h3.mono fun _ _ => Rd.flat hf⟩
  · rename_i id q
    obtain ⟨⟨T, e, dp, xs, h1⟩, h3⟩ := h
    obtain ⟨⟨xs', h4⟩, h5⟩ := (hs id rfl).obj T e dp xs h1
    exact ⟨⟨T, e, dp, xs', h4⟩, by rw [h5]; exact h3⟩
  · exact h
  · exact h
theorem MR.flat {x : ME} {e : GE} (hf : x.flat = true) (hs : ∀ id, Sim m g m' g' id) (h : MR w ok m g x e) : MR w ok' m' g' x e := by
  cases x with
  | box l =>
    obtain ⟨vs, T, h1, h2⟩ := h
    refine ⟨vs, T, h1, all2_flat hf (fun x v hp hr => ?_) h2⟩
    have : R0 w ok m g x v := by cases x <;> first | exact hr | cases hp
    exact R1.of0 (R0.flat hp (fun id _ => hs id) this)
  | arr k n xs =>
    obtain ⟨h0, vs, T, h1, h2⟩ := h
    exact ⟨h0, vs, T, h1, h2.mono fun _ _ hr => Rd.flat hf hr⟩
  | obj T k dp xs => exact Own.flatD (d := dp + 1) (e := .sl T k) hf (fun _ _ => rfl) h
  | none => trivial
end

/-! ### the names lent -/
def lookI : List (Nat × Nat × List Nat) → Nat → Option (Nat × List Nat)
  | [], _ => none
  | (i, p) :: r, k => bif Nat.beq k i then some p else lookI r k
def lookJ : List (Nat × Nat × List Nat) → Nat → Option (Nat × List Nat)
  | [], _ => none
  | (i, id, q) :: r, k => bif Nat.beq k id then some (i, q) else lookJ r k
theorem lendM_eq (m : Nat → ME) : ∀ (l : List (Nat × Nat × List Nat)) (k : Nat), lendM m l k = match lookI l k with
    | some p => subE (m p.1) p.2
    | none => .none
  | [], k => rfl
  | (i, id, q) :: r, k => by
    simp only [lendM, lookI]
    cases Nat.beq k i
    · exact lendM_eq m r k
    · rfl
theorem back_eq (m r : Nat → ME) : ∀ (l : List (Nat × Nat × List Nat)) (k : Nat), back m r l k = match lookJ l k with
    | some p => putE (m k) p.2 (r p.1)
    | none => m k
  | [], k => rfl
  | (i, id, q) :: t, k => by
    simp only [back, lookJ]
    cases hb : Nat.beq k id
    · exact back_eq m r t k
    · rw [beq_true hb]; rfl
theorem lookI_mem : ∀ {l : List (Nat × Nat × List Nat)} {k : Nat} {p : Nat × List Nat}, lookI l k = some p → (k, p) ∈ l
  | [], _, _, h => by cases h
  | (i, j) :: r, k, p, h => by
    simp only [lookI] at h
    cases hb : Nat.beq k i <;> rw [hb] at h
    · exact List.mem_cons_of_mem _ (lookI_mem h)
    · simp only [cond_true, Option.some.injEq] at h; rw [beq_true hb, h]; exact List.mem_cons_self ..
theorem lookJ_mem : ∀ {l : List (Nat × Nat × List Nat)} {k : Nat} {p : Nat × List Nat}, lookJ l k = some p → (p.1, k, p.2) ∈ l
  | [], _, _, h => by cases h
  | (i, j, q) :: r, k, p, h => by
    simp only [lookJ] at h
    cases hb : Nat.beq k j <;> rw [hb] at h
    · exact List.mem_cons_of_mem _ (lookJ_mem h)
    · simp only [cond_true, Option.some.injEq] at h; rw [beq_true hb, ← h]; exact List.mem_cons_self ..
theorem knowsId_iff {l : List (Nat × Nat × List Nat)} {id : Nat} : knowsId l id = true ↔ ∃ i q, (i, id, q) ∈ l := by
  unfold knowsId
  rw [List.any_eq_true]
  constructor
  · rintro ⟨⟨i, j, q⟩, h1, h2⟩; exact ⟨i, q, beq_true h2 ▸ h1⟩
  · rintro ⟨i, q, h⟩; exact ⟨_, h, beq_self _⟩
theorem lookJ_knows {l : List (Nat × Nat × List Nat)} {id : Nat} : (lookJ l id = none ↔ knowsId l id = false) := by
  induction l with
  | nil => simp [lookJ, knowsId]
  | cons p r ih =>
    obtain ⟨i, j, q⟩ := p
    simp only [lookJ, knowsId, List.any_cons]
    by_cases e : id = j
    · subst e; simp [beq_self]
    · rw [beq_ne e, beq_ne (Ne.symm e)]; simpa [knowsId] using ih
theorem lookJ_of_mem : ∀ {l : List (Nat × Nat × List Nat)}, distinct l = true → ∀ {i id : Nat} {q : List Nat}, (i, id, q) ∈ l → lookJ l id = some (i, q)
  | [], _, _, _, _, h => by cases h
  | (i, j, p) :: r, hd, k, id, q, h => by
    simp only [distinct, Bool.and_eq_true, Bool.not_eq_true'] at hd
    simp only [lookJ]
    rcases List.mem_cons.1 h with h | h
    · injection h with h1 h2; injection h2 with h2 h3; subst h1; subst h2; subst h3; rw [beq_self]; rfl
    · have : id ≠ j := fun e => by
        have := knowsId_iff.2 ⟨k, q, e ▸ h⟩
        rw [hd.1] at this; cases this
      rw [beq_ne this]; exact lookJ_of_mem hd.2 h
theorem ioL_look (mu : List Nat) : ∀ (args : List AV) (k i : Nat), lookI (ioL mu k args) i = if k ≤ i then (args[i - k]?).bind (ioOf mu i) else none := by
  intro args
  induction args with
  | nil => intro k i; simp [ioL, lookI]
  | cons a r ih =>
    intro k i
    have hrest : lookI (ioL mu (k + 1) r) i = if k < i then (r[i - (k + 1)]?).bind (ioOf mu i) else none := by rw [ih]; rfl
    simp only [ioL]
    rcases Nat.lt_trichotomy i k with h | h | h
    · rw [if_neg (by omega)]
      rw [if_neg (by omega)] at hrest
      cases ioOf mu k a <;> simp only [lookI]
      · exact hrest
      · rw [beq_ne (by omega)]; exact hrest
    · subst h
      rw [if_pos (Nat.le_refl _)]
      rw [if_neg (by omega)] at hrest
      simp only [Nat.sub_self, List.getElem?_cons_zero, Option.bind_some]
      cases ioOf mu i a <;> simp only [lookI]
      · exact hrest
      · rw [beq_self]; rfl
    · rw [if_pos (by omega)]
      rw [if_pos h] at hrest
      have e : i - k = (i - (k + 1)) + 1 := by omega
      rw [e, List.getElem?_cons_succ]
      cases ioOf mu k a <;> simp only [lookI]
      · exact hrest
      · rw [beq_ne (by omega)]; exact hrest
theorem ioL_mem (mu : List Nat) : ∀ (args : List AV) (k : Nat) {i : Nat} {p : Nat × List Nat}, (i, p) ∈ ioL mu k args → k ≤ i ∧ ∃ a, args[i - k]? = some a ∧ ioOf mu i a = some p := by
  intro args
  induction args with
  | nil => intro k i p h; cases h
  | cons a r ih =>
    intro k i p h
    have hr : (i, p) ∈ ioL mu (k + 1) r → k ≤ i ∧ ∃ b, (a :: r)[i - k]? = some b ∧ ioOf mu i b = some p := fun h => by
      obtain ⟨h1, b, h2, h3⟩ := ih (k + 1) h
      have e : i - k = (i - (k + 1)) + 1 := by omega
      exact ⟨by omega, b, by rw [e, List.getElem?_cons_succ]; exact h2, h3⟩
    simp only [ioL] at h
    split at h
    · rename_i j hj
      rcases List.mem_cons.1 h with h | h
      · injection h with h1 h2; subst h1; subst h2
        exact ⟨Nat.le_refl _, a, by simp, hj⟩
      · exact hr h
    · exact hr h
theorem io_look {mu : List Nat} {args : List AV} {i : Nat} {p : Nat × List Nat} (h : (i, p) ∈ ioL mu 0 args) : lookI (ioL mu 0 args) i = some p := by
  obtain ⟨_, a, h1, h2⟩ := ioL_mem mu args 0 h
  rw [ioL_look, if_pos (Nat.zero_le _), h1]; exact h2
theorem lendAs_get (m : Nat → ME) (mu : List Nat) : ∀ (args : List AV) (k j : Nat), (lendAs m mu k args)[j]? = (args[j]?).map (lendA m mu (k + j)) := by
  intro args
  induction args with
  | nil => intro k j; simp [lendAs]
  | cons a r ih =>
    intro k j
    cases j with
    | zero => simp [lendAs]
    | succ j => simp only [lendAs, List.getElem?_cons_succ, ih]; congr 2; omega
theorem lendAs_len (m : Nat → ME) (mu : List Nat) : ∀ (args : List AV) (k : Nat), (lendAs m mu k args).length = args.length := by
  intro args
  induction args with
  | nil => intro k; rfl
  | cons a r ih => intro k; simp [lendAs, ih]
theorem plainL_mem (mu : List Nat) : ∀ (args : List AV) (k j : Nat) {a : AV}, args[j]? = some a → ioOf mu (k + j) a = none → ∀ id ∈ ids2 a, id ∈ plainL mu k args := by
  intro args
  induction args with
  | nil => intro k j a h; simp at h
  | cons b r ih =>
    intro k j a h hio id hid
    simp only [plainL]
    cases j with
    | zero =>
      simp at h; subst h
      rw [Nat.add_zero] at hio
      simp only [hio]; exact List.mem_append_left _ hid
    | succ j =>
      simp at h
      have := ih (k + 1) j h (by rw [show k + 1 + j = k + (j + 1) by omega]; exact hio) id hid
      split
      · exact this
      · exact List.mem_append_right _ this

/-! ### lending -/
section
variable {w0 : World} {io : Nat → Prop} {n : Nat} {S : St} {g : GM} {a : Act} {w : World} {ok : Nat → Prop} {m' : Nat → ME} {g' : GM}
theorem lend0_ok (h : SR w0 io n S g a w) (hx : Ext w (okOf w S.m g) w ok) {x : AV} {v : Value} (hok : ∀ id ∈ ids0 x, ∀ k, k ∈ blks (S.m id) (g id) → ok k) (hr : R0 w (okOf w S.m g) S.m g x v) : R0 w ok m' g' (lend0 S.m x) v := by
  cases x with
  | ref id q =>
    obtain ⟨_, n', kids, hg⟩ := hr
    simp only [lend0]
    split
    · rename_i T e dp xs hm
      have hM := h.mem id
      rw [hm] at hM
      obtain ⟨y, h1, h2⟩ := getP_ref hM hg ok (fun k hk => (hx k hk).1) (fun k hk => hok id (by simp [ids0]) k (by rw [hm]; exact hk))
      rw [h1]; exact h2
    · trivial
  | d e x => exact Rd.mono hx hr
  | arr e n xs => obtain ⟨vs, h1, h2, h3⟩ := hr; exact ⟨vs, h1, h2, h3.mono fun _ _ => Rd.mono hx⟩
  | nilS T e => exact R0.nrm (x := .nilS T e) hr
  | iptr l =>
    obtain ⟨a, vs, h1, h2, h3, h4⟩ := hr
    exact ⟨a, vs, h1, (hx _ h2).1, h3.mono (fun _ _ => RA.mono hx), h4⟩
  | nilI => exact hr
  | skip => exact hr
  | ptr _ _ => trivial
  | eptr _ _ _ => trivial
  | undef => trivial
  | agg l => exact hr.elim
  | tup l => exact hr.elim
  | fn f l => exact hr.elim
theorem lendC_ok (h : SR w0 io n S g a w) (hx : Ext w (okOf w S.m g) w ok) {x : AV} {v : Value} (hok : ∀ id off, x = .ptr id off → ∀ k, k ∈ blks (S.m id) (g id) → ok k) (hr : RC w (okOf w S.m g) S.m g x v) : R0 w ok m' g' (lendC S.m x) v := by
  obtain ⟨hc, hr⟩ := hr
  cases x <;> simp only [AV.isCap, Bool.false_eq_true] at hc
  · rename_i id off
    obtain ⟨hv, _⟩ := hr
    simp only [lendC]
    split
    · rename_i l hm
      cases hd : l.all AV.isD
      · trivial
      · have hM := h.mem id
        rw [hm] at hM
        obtain ⟨vs, T', hh, hl2⟩ := hM
        refine ⟨⟨(g id).blk, off, none⟩, vs.toList.drop off, hv, hok id off rfl _ (by rw [hm]; simp [blks]), ((All2.allD hd hl2).mono fun _ _ => RA.mono hx).drop off, fun j u hj => ?_⟩
        rw [add_none]
        simp only [World.cell?, hh, Option.isSome_none, Bool.false_eq_true, if_false]
        rw [List.getElem?_drop] at hj
        simpa using hj
    · trivial
  · exact lend0_ok (x := .iptr _) h hx (fun id hid => by simp [ids0] at hid) hr
theorem lend1_ok (h : SR w0 io n S g a w) (hx : Ext w (okOf w S.m g) w ok) {x : AV} {v : Value} (hok : ∀ id ∈ ids0 x, ∀ k, k ∈ blks (S.m id) (g id) → ok k) (hr : R1 w (okOf w S.m g) S.m g x v) : R1 w ok m' g' (lend1 S.m x) v := by
  cases x <;> simp only [R1] at hr <;> first | exact R1.of0 (lend0_ok h hx hok (show R0 w (okOf w S.m g) S.m g _ v from hr)) | skip
  rename_i f l
  obtain ⟨vs, h1, h2⟩ := hr
  simp only [lend1]
  cases hc : (l.map (lendC S.m)).all AV.isCap with
  | false => trivial
  | true =>
    refine ⟨vs, h1, All2.of_get (by simpa using h2.length) fun i x u hi hu => ?_⟩
    rw [List.getElem?_map] at hi
    obtain ⟨y, hy, hyx⟩ := Option.map_eq_some_iff.1 hi
    subst hyx
    obtain ⟨u', hu', hr⟩ := h2.get i y hy
    rw [hu] at hu'; injection hu' with hu'; subst hu'
    refine ⟨List.all_eq_true.1 hc _ (List.mem_map.2 ⟨y, List.mem_of_getElem? hy, rfl⟩), lendC_ok h hx (fun id off e => hok id ?_) hr⟩
    simp only [ids0, List.mem_filterMap]
    exact ⟨_, e ▸ List.mem_of_getElem? hy, rfl⟩
theorem lend2_ok (h : SR w0 io n S g a w) (hx : Ext w (okOf w S.m g) w ok) {x : AV} {v : Value} (hok : ∀ id ∈ ids2 x, ∀ k, k ∈ blks (S.m id) (g id) → ok k) (hr : R3 w (okOf w S.m g) S.m g x v) : R2 w ok m' g' (lend2 S.m x) v := by
  have key : ∀ y, R1 w (okOf w S.m g) S.m g y v → (∀ id ∈ ids0 y, ∀ k, k ∈ blks (S.m id) (g id) → ok k) → R2 w ok m' g' (lend1 S.m y) v := fun y hy hok => R2.of1 (lend1_ok h hx hok hy)
  by_cases ha : ∃ l, x = .agg l
  rotate_left
  · by_cases ht : ∃ l, x = .tup l
    · obtain ⟨l, rfl⟩ := ht; exact trivial
    · have e1 : lend2 S.m x = lend1 S.m x := by cases x <;> first | rfl | exact absurd ⟨_, rfl⟩ ha
      have e2 : ids2 x = ids0 x := by cases x <;> first | rfl | exact absurd ⟨_, rfl⟩ ha
      rw [e1]
      exact key x (R2.to1 (R3.to2 hr fun l e => ht ⟨l, e⟩) fun l e => ha ⟨l, e⟩) (e2 ▸ hok)
  obtain ⟨l, rfl⟩ := ha
  obtain ⟨vs, h1, h2⟩ := hr
  refine ⟨vs, h1, ?_⟩
  have : ∀ {l : List AV} {us : List Value}, All2 (R1 w (okOf w S.m g) S.m g) l us → (∀ id ∈ l.flatMap ids0, ∀ k, k ∈ blks (S.m id) (g id) → ok k) → All2 (R1 w ok m' g') (l.map (lend1 S.m)) us := by
    intro l us hl
    induction hl with
    | nil => intro _; exact .nil
    | cons h1 _ ih => intro hok; exact .cons (lend1_ok h hx (fun id hid => hok id (by simp only [List.flatMap_cons, List.mem_append]; exact .inl hid)) h1) (ih fun id hid => hok id (by simp only [List.flatMap_cons, List.mem_append]; exact .inr hid))
  exact this h2 hok

/-- What a lent name stands for. -/
def lentE (e : GE) (q : List Nat) : GE := ⟨e.blk, (e.tr.get q).getD .lf⟩
theorem lent_blks {x : ME} {e : GE} {q : List Nat} {k : Nat} (h : k ∈ blks (subE x q) (lentE e q)) : k ∈ blks x e := by
  cases x with
  | none => exact h
  | box l => exact h
  | arr e n xs => exact h
  | obj T e2 dp xs =>
    have key : k ∈ ((e.tr.get q).getD .lf).blocks → k ∈ e.tr.blocks := fun h => by
      cases hg : e.tr.get q with
      | none => rw [hg] at h; simp [Tr.blocks] at h
      | some s => rw [hg] at h; exact Tr.get_blocks hg k h
    cases q with
    | nil => exact key h
    | cons i q =>
      simp only [subE] at h
      split at h
      · exact key h
      · cases h
theorem lent_root (e : GE) : lentE e [] = e := by cases e; simp [lentE, Tr.get]
/-- What a callee's names stand for. -/
def lentG (S : St) (g : GM) (l : List (Nat × Nat × List Nat)) (pl : List Nat) : GM :=
  ⟨fun k => match lookI l k with
    | some p => lentE (g p.1) p.2
    | none => ⟨0, .lf⟩, fun k => g.ex k ∨ ((∃ id, id ∉ pl ∧ k ∈ blks (S.m id) (g id)) ∧ ∀ p ∈ l, k ∉ blks (subE (S.m p.2.1) p.2.2) (lentE (g p.2.1) p.2.2))⟩

theorem sub_mem {w : World} {okk : Nat → Prop} {x : ME} {e : GE} {q : List Nat} {ok : Nat → Prop} {m m' : Nat → ME} {g g' : GM} (hl : lendable x = true) (hs : lendable (subE x q) = true) (hq : q ≠ [] → ∃ v n kids, e.tr.get q = some (.nd v n kids)) (hx : Ext w okk w ok) (h : MR w okk m g x e) : MR w ok m' g' (subE x q) (lentE e q) := by
  cases x with
  | none => cases hl
  | box l =>
    obtain ⟨vs, T, h1, h2⟩ := h
    refine ⟨vs, T, h1, ((All2.allD hl h2).mono fun _ _ => RA.mono hx).mono fun x v hr => ?_⟩
    cases x <;> simp only [RA] at hr
    exact hr
  | arr k n xs => obtain ⟨h0, vs, T, h1, h2⟩ := h; exact ⟨h0, vs, T, h1, h2.mono fun _ _ => Rd.mono hx⟩
  | obj T k dp xs =>
    cases q with
    | nil => rw [lent_root]; exact Own.mono hx (fun _ _ => rfl) h
    | cons i q =>
      obtain ⟨v', n', kids, hg⟩ := hq (by simp)
      obtain ⟨T', e', ys, h1, h2, h3⟩ := Own.get (i :: q) h hg
      simp only [subE, h1]
      have hd : dp + 1 - (i :: q).length = (dp - (i :: q).length) + 1 := by omega
      rw [hd] at h3
      show Own w ok (dp - (i :: q).length + 1) (.sl T' e') ys (lentE e (i :: q)).tr (lentE e (i :: q)).tr.v
      simp only [lentE, hg, Option.getD_some]
      exact Own.mono hx (fun _ _ => rfl) h3
theorem lend_pre (h : SR w0 io n S g a w) (mu : List Nat) {args : List AV} {vals : Array Value} (hargs : All2 (R3 w (okOf w S.m g) S.m g) args vals.toList)
    (hok : lendOK S.m (ioL mu 0 args) (plainL mu 0 args) = true) :
    Pre (lendAs S.m mu 0 args) (lendM S.m (ioL mu 0 args)) (lentG S g (ioL mu 0 args) (plainL mu 0 args)) vals w ∧
    (∀ i id q, (i, id, q) ∈ ioL mu 0 args → q ≠ [] → (∃ v n kids, (g id).tr.get q = some (.nd v n kids)) ∧ ∃ T e dp xs, S.m id = .obj T e dp xs) := by
  simp only [lendOK, Bool.and_eq_true, List.all_eq_true, Bool.not_eq_true'] at hok
  obtain ⟨⟨hdist, hlend⟩, hpl⟩ := hok
  -- what is at a path that is lent
  have hq : ∀ i id q, (i, id, q) ∈ ioL mu 0 args → q ≠ [] → (∃ v n kids, (g id).tr.get q = some (.nd v n kids)) ∧ ∃ T e dp xs, S.m id = .obj T e dp xs := by
    intro i id q hi hne
    obtain ⟨_, x, hx, hio⟩ := ioL_mem mu args 0 hi
    obtain ⟨v, _, hr⟩ := hargs.get _ x hx
    cases x <;> simp only [ioOf] at hio <;> try (cases hio; done)
    · injection hio with hio; injection hio with h1 h2; exact absurd h2.symm hne
    · rename_i id2 q2
      cases hc : mu.contains i <;> rw [hc] at hio <;> simp only [cond_false, cond_true] at hio
      · cases hio
      · injection hio with hio; injection hio with h1 h2; subst h1; subst h2
        obtain ⟨hob, n', kids, hg⟩ := hr
        exact ⟨⟨_, _, _, hg⟩, hob⟩
  refine ⟨?_, hq⟩
  generalize hL : ioL mu 0 args = L at *
  generalize hPl : plainL mu 0 args = pl at *
  have hm : ∀ i p, lookI L i = some p → lendM S.m L i = subE (S.m p.1) p.2 := fun i p hi => by rw [lendM_eq, hi]
  have hg : ∀ i p, lookI L i = some p → (lentG S g L pl) i = lentE (g p.1) p.2 := fun i p hi => by simp only [lentG, hi]
  have hn : ∀ i, lookI L i = none → lendM S.m L i = .none := fun i hi => by rw [lendM_eq, hi]
  have hb : ∀ i k, k ∈ blks (lendM S.m L i) ((lentG S g L pl) i) → ∃ p, lookI L i = some p ∧ k ∈ blks (subE (S.m p.1) p.2) (lentE (g p.1) p.2) := by
    intro i k hk
    cases hi : lookI L i with
    | none => rw [hn i hi] at hk; cases hk
    | some p => rw [hm i p hi, hg i p hi] at hk; exact ⟨p, rfl, hk⟩
  have hb' : ∀ i k, k ∈ blks (lendM S.m L i) ((lentG S g L pl) i) → ∃ p, lookI L i = some p ∧ k ∈ blks (S.m p.1) (g p.1) := fun i k hk => by
    obtain ⟨p, h1, h2⟩ := hb i k hk; exact ⟨p, h1, lent_blks h2⟩
  have hnex : ∀ i k, k ∈ blks (lendM S.m L i) ((lentG S g L pl) i) → ¬ (lentG S g L pl).ex k := by
    rintro i k hk (he | ⟨_, h2⟩)
    · obtain ⟨p, h1, h3⟩ := hb' i k hk; exact h.notex _ k h3 he
    · obtain ⟨p, h1, h3⟩ := hb i k hk
      exact h2 _ (lookI_mem h1) h3
  have hplok : ∀ id ∈ pl, ∀ k, k ∈ blks (S.m id) (g id) → okOf w (lendM S.m L) (lentG S g L pl) k := by
    intro id hid k hk
    refine ⟨(h.own id k hk).1, ?_, fun i hi => ?_⟩
    · rintro (he | ⟨⟨id', h2, h3⟩, _⟩)
      · exact h.notex id k hk he
      · exact h2 (h.disj id id' k hk h3 ▸ hid)
    · obtain ⟨p, h1, h2⟩ := hb' i k hi
      have := h.disj id p.1 k hk h2
      subst this
      have hk' := hpl _ hid
      rw [knowsId_iff.2 ⟨i, p.2, lookI_mem h1⟩] at hk'; cases hk'
  have hx : Ext w (okOf w S.m g) w (okOf w (lendM S.m L) (lentG S g L pl)) := fun k hk => ⟨⟨hk.1, by
    rintro (he | ⟨⟨id', _, h3⟩, _⟩)
    · exact hk.2.1 he
    · exact hk.2.2 id' h3, fun i hi => by obtain ⟨p, _, h2⟩ := hb' i k hi; exact hk.2.2 _ h2⟩, rfl⟩
  refine ⟨?_, fun i => ?_, fun i k hk => ?_, fun i j k hi hj => ?_, ?_, fun i hi => ?_, fun i hi => ?_⟩
  · refine All2.of_get (by rw [lendAs_len, hargs.length]) fun j y v hy hv => ?_
    rw [lendAs_get, Nat.zero_add] at hy
    obtain ⟨x, hx1, hx2⟩ := Option.map_eq_some_iff.1 hy
    obtain ⟨v', hv', hr⟩ := hargs.get j x hx1
    rw [hv] at hv'; injection hv' with hv'; subst hv'
    subst hx2
    cases hio : ioOf mu j x with
    | none =>
      have hl : lendA S.m mu j x = lend2 S.m x := by unfold lendA; rw [hio]
      rw [hl]
      exact lend2_ok h hx (fun id hid => hplok id (hPl ▸ plainL_mem mu args 0 j hx1 (by rw [Nat.zero_add]; exact hio) id hid)) hr
    | some p =>
      have hlk : lookI L j = some p := by rw [← hL, ioL_look, if_pos (Nat.zero_le _), Nat.sub_zero, hx1]; exact hio
      obtain ⟨hl1, hl2⟩ := hlend _ (lookI_mem hlk)
      cases x <;> simp only [ioOf] at hio <;> try (cases hio; done)
      · rename_i id2 off
        injection hio with hio; subst hio
        have hl : lendA S.m mu j (.ptr id2 off) = .ptr j off := by simp [lendA, ioOf]
        rw [hl]
        obtain ⟨h1, h2⟩ := hr
        refine ⟨by rw [hg j _ hlk, lent_root]; exact h1, ?_⟩
        rw [hm j _ hlk]
        rcases h2 with ⟨l, h2⟩ | ⟨e, n', xs, h2⟩
        · exact .inl ⟨l.map Go.Proofs.Ytckieogkaodkdaa.V.nrm, by simp only [h2, subE]⟩
        · exact .inr ⟨e, n', xs, by simp only [h2, subE]⟩
      · rename_i id2 q
        cases hc : mu.contains j <;> rw [hc] at hio <;> simp only [cond_false, cond_true] at hio
        · cases hio
        · injection hio with hio; subst hio
          have hl : lendA S.m mu j (.ref id2 q) = .ref j [] := by simp only [lendA, ioOf, hc, cond_true]
          rw [hl]
          obtain ⟨⟨T, e, dp, xs, h2⟩, n', kids, h1⟩ := hr
          refine ⟨?_, n', kids, ?_⟩
          · rw [hm j _ hlk]
            have hl2 : lendable (subE (S.m id2) q) = true := hl2
            cases q with
            | nil => exact ⟨T, e, dp, xs, by simp only [h2, subE]⟩
            | cons i q =>
              simp only [h2, subE] at hl2 ⊢
              split at hl2
              · rename_i T' e' ys hp; exact ⟨T', e', _, ys, rfl⟩
              · cases hl2
          · rw [hg j _ hlk]
            simp only [lentE, h1, Option.getD_some, Tr.get]
  · cases hi : lookI L i with
    | none => rw [hn i hi]; trivial
    | some p =>
      rw [hm i p hi, hg i p hi]
      obtain ⟨hl1, hl2⟩ := hlend _ (lookI_mem hi)
      exact sub_mem hl1 hl2 (fun hne => (hq i p.1 p.2 (lookI_mem hi) hne).1) hx (h.mem p.1)
  · obtain ⟨p, h1, h2⟩ := hb' i k hk
    exact ⟨(h.own _ k h2).1, hnex i k hk⟩
  · obtain ⟨p, h1, h2⟩ := hb' i k hi
    obtain ⟨p', h3, h4⟩ := hb' j k hj
    have e := h.disj _ _ k h2 h4
    have m1 : (i, p.1, p.2) ∈ L := lookI_mem h1
    have m2 : (j, p'.1, p'.2) ∈ L := lookI_mem h3
    rw [← e] at m2
    have e1 := lookJ_of_mem hdist m1
    rw [lookJ_of_mem hdist m2] at e1
    injection e1 with e1; injection e1 with e1; exact e1.symm
  · rintro k (he | ⟨⟨id', _, h3⟩, _⟩)
    · exact h.ex k he
    · exact (h.own id' k h3).1
  · rw [lendAs_len] at hi
    refine hn i ?_
    rw [← hL, ioL_look, if_pos (Nat.zero_le _), List.getElem?_eq_none (by omega)]; rfl
  · cases hl : lookI L i with
    | none => exact absurd (hn i hl) hi
    | some p => rw [hm i p hl]; exact (hlend _ (lookI_mem hl)).2
end
end Go.Proofs.Ytckieogkaodkdaa.V
