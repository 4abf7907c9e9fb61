/- Calls: what comes back. -/
import Derived.Test.YtckieogkaodkdaaWe
set_option linter.unusedVariables false
set_option linter.unusedSimpArgs false
namespace Go.Proofs.Ytckieogkaodkdaa.V
open Go Go.RowKit

/-! ### the names of what comes back -/
def lookC : List (Nat × Nat) → Nat → Option Nat
  | [], _ => none
  | (i, k) :: l, j => bif Nat.beq j k then some i else lookC l j
theorem putN_eq (r : Nat → ME) (m : Nat → ME) : ∀ (l : List (Nat × Nat)) (j : Nat), putN r l m j = match lookC l j with
    | some i => r i
    | none => m j
  | [], j => rfl
  | (i, k) :: l, j => by
    simp only [putN, upd, lookC]
    cases Nat.beq j k
    · exact putN_eq r m l j
    · rfl
theorem lookC_mem : ∀ {l : List (Nat × Nat)} {j i : Nat}, lookC l j = some i → (i, j) ∈ l
  | [], _, _, h => by cases h
  | (i0, k) :: l, j, i, h => by
    simp only [lookC] at h
    cases hb : Nat.beq j k <;> rw [hb] at h
    · exact List.mem_cons_of_mem _ (lookC_mem h)
    · simp only [cond_true, Option.some.injEq] at h; rw [beq_true hb, h]; exact List.mem_cons_self ..
theorem lookN_mem : ∀ {l : List (Nat × Nat)} {j i : Nat}, lookN l i = some j → (i, j) ∈ l
  | [], _, _, h => by cases h
  | (i0, k) :: l, j, i, h => by
    simp only [lookN] at h
    cases hb : Nat.beq i i0 <;> rw [hb] at h
    · exact List.mem_cons_of_mem _ (lookN_mem h)
    · simp only [cond_true, Option.some.injEq] at h; rw [beq_true hb, h]; exact List.mem_cons_self ..
theorem lookC_of_mem : ∀ {l : List (Nat × Nat)}, (l.map (·.2)).Nodup → ∀ {i j : Nat}, (i, j) ∈ l → lookC l j = some i
  | [], _, _, _, h => by cases h
  | (i0, k) :: l, hd, i, j, h => by
    simp only [List.map_cons, List.nodup_cons] at hd
    simp only [lookC]
    rcases List.mem_cons.1 h with h | h
    · injection h with h1 h2; subst h1; subst h2; rw [beq_self]; rfl
    · have : j ≠ k := fun e => hd.1 (e ▸ List.mem_map.2 ⟨(i, j), h, rfl⟩)
      rw [beq_ne this]; exact lookC_of_mem hd.2 h
theorem nodup_of {l : List Nat} (h : nodupB l = true) : l.Nodup := by
  induction l with
  | nil => exact List.nodup_nil
  | cons k r ih =>
    simp only [nodupB, Bool.and_eq_true, Bool.not_eq_true'] at h
    refine List.nodup_cons.2 ⟨fun hk => ?_, ih h.2⟩
    have : r.any (Nat.beq k) = true := List.any_eq_true.2 ⟨k, hk, beq_self k⟩
    rw [h.1] at this; cases this
theorem namesOf_mem {d : Nat} : ∀ {l : List Nat} {j k c : Nat}, (k, c) ∈ namesOf d j l → k ∈ l ∧ ∃ i, j ≤ i ∧ c = nameOf d i
  | [], _, _, _, h => by cases h
  | x :: l, j, k, c, h => by
    simp only [namesOf] at h
    rcases List.mem_cons.1 h with h | h
    · injection h with h1 h2; subst h1; exact ⟨List.mem_cons_self .., j, Nat.le_refl _, h2⟩
    · obtain ⟨h1, i, h2, h3⟩ := namesOf_mem h
      exact ⟨List.mem_cons_of_mem _ h1, i, by omega, h3⟩
theorem namesOf_nodup {d : Nat} : ∀ {l : List Nat} {j : Nat}, ((namesOf d j l).map (·.2)).Nodup
  | [], _ => List.nodup_nil
  | x :: l, j => by
    simp only [namesOf, List.map_cons, List.nodup_cons]
    refine ⟨fun h => ?_, namesOf_nodup⟩
    obtain ⟨⟨k, c⟩, h1, h2⟩ := List.mem_map.1 h
    obtain ⟨_, i, h3, h4⟩ := namesOf_mem h1
    simp only at h2
    rw [h4] at h2
    unfold nameOf at h2
    omega
theorem Tr.put_get : ∀ {q : List Nat} {t s : Tr}, t.get q = some s → t.put q s = t
  | [], t, s, h => by rw [Tr.put_nil]; simp only [Tr.get, Option.some.injEq] at h; exact h.symm
  | i :: q, .nd v n kids, s, h => by
    simp only [Tr.get] at h
    split at h
    · simp only [Tr.put]
      rw [Tr.put_get h]
      congr 1
      funext j
      by_cases e : j = i
      · subst e; simp [upd]
      · simp [upd, beq_ne e]
    · cases h
  | _ :: _, .lf, _, h => by simp [Tr.get] at h

section
variable {w w' : World} {ok ok' : Nat → Prop} {m m' : Nat → ME} {g g' : GM}
theorem MR.lend_ext {x : ME} {e : GE} (hl : lendable x = true) (hx : Ext w ok w ok') (h : MR w ok m g x e) : MR w ok' m' g' x e := by
  cases x with
  | box l =>
    obtain ⟨vs, T, h1, h2⟩ := h
    refine ⟨vs, T, h1, all2_flat hl (fun x v hp hr => ?_) h2⟩
    cases x <;> simp only [AV.isD, Bool.false_eq_true] at hp
    · exact Rd.mono hx hr
    · exact hr
  | arr k n xs => obtain ⟨h0, vs, T, h1, h2⟩ := h; exact ⟨h0, vs, T, h1, h2.mono fun _ _ => Rd.mono hx⟩
  | obj T k dp xs => exact Own.mono hx (fun _ _ => rfl) h
  | none => cases hl
theorem MR.lend_flat {x : ME} {e : GE} (hl : lendable x = true) (hf : x.flat = true) (h : MR w ok m g x e) : MR w ok' m' g' x e := by
  cases x with
  | box l =>
    obtain ⟨vs, T, h1, h2⟩ := h
    have hlf : l.all (fun x => x.isD && x.flat0) = true := List.all_eq_true.2 fun y hy => by
      have h1 := List.all_eq_true.1 hl y hy
      have h2 := List.all_eq_true.1 hf y hy
      rw [h1, h2]; rfl
    refine ⟨vs, T, h1, all2_flat hlf (fun x v hp hr => ?_) h2⟩
    simp only [Bool.and_eq_true] at hp
    obtain ⟨hp, hp2⟩ := hp
    cases x <;> simp only [AV.isD, Bool.false_eq_true] at hp
    · exact Rd.flat hp2 hr
    · exact hr
  | arr k n xs => obtain ⟨h0, vs, T, h1, h2⟩ := h; exact ⟨h0, vs, T, h1, h2.mono fun _ _ => Rd.flat hf⟩
  | obj T k dp xs => exact Own.flatD (d := dp + 1) (e := .sl T k) hf (fun _ _ => rfl) h
  | none => cases hl
theorem R1.liftF {f : AV → AV} (hf : ∀ x v, x.flat0 = true → R0 w ok m g x v → R0 w' ok' m' g' (f x) v) {x : AV} {v : Value} (hx : x.flat1 = true) (h : R1 w ok m g x v) : R1 w' ok' m' g' (lift1 f x) v := by
  by_cases ha : ∃ F l, x = .fn F l
  · obtain ⟨F, l, rfl⟩ := ha
    obtain ⟨vs, h1, h2⟩ := h
    have hl : l = [] := by simpa [AV.flat1] using hx
    subst hl
    refine ⟨vs, h1, ?_⟩
    have := h2.length
    generalize vs.toList = us at *
    cases h2; exact .nil
  · have e1 : lift1 f x = f x := by cases x <;> first | rfl | exact absurd ⟨_, _, rfl⟩ ha
    have e2 : x.flat1 = x.flat0 := by cases x <;> first | rfl | exact absurd ⟨_, _, rfl⟩ ha
    have h : R0 w ok m g x v := by cases x <;> first | exact h | exact absurd ⟨_, _, rfl⟩ ha
    rw [e1]; exact R1.of0 (hf x v (e2 ▸ hx) h)
theorem R2.liftF {f : AV → AV} (hf : ∀ x v, x.flat0 = true → R0 w ok m g x v → R0 w' ok' m' g' (f x) v) {x : AV} {v : Value} (hx : x.flat2 = true) (h : R2 w ok m g x v) : R2 w' ok' m' g' (lift2 f x) v := by
  by_cases ha : ∃ l, x = .agg l
  · obtain ⟨l, rfl⟩ := ha
    obtain ⟨vs, h1, h2⟩ := h
    refine ⟨vs, h1, ?_⟩
    have : ∀ {l : List AV} {us : List Value}, l.all AV.flat1 = true → All2 (R1 w ok m g) l us → All2 (R1 w' ok' m' g') (l.map (lift1 f)) us := by
      intro l us hl h
      induction h with
      | nil => exact .nil
      | cons h1 _ ih => simp only [List.all_cons, Bool.and_eq_true] at hl; exact .cons (R1.liftF hf hl.1 h1) (ih hl.2)
    exact this hx h2
  · have e1 : lift2 f x = lift1 f x := by cases x <;> first | rfl | exact absurd ⟨_, rfl⟩ ha
    have e2 : x.flat2 = x.flat1 := by cases x <;> first | rfl | exact absurd ⟨_, rfl⟩ ha
    rw [e1]; exact R2.of1 (R1.liftF hf (e2 ▸ hx) (R2.to1 h fun l e => ha ⟨l, e⟩))
theorem R3.liftF {f : AV → AV} (hf : ∀ x v, x.flat0 = true → R0 w ok m g x v → R0 w' ok' m' g' (f x) v) {x : AV} {v : Value} (hx : x.flat = true) (h : R3 w ok m g x v) : R3 w' ok' m' g' (lift3 f x) v := by
  by_cases ha : ∃ l, x = .tup l
  · obtain ⟨l, rfl⟩ := ha
    obtain ⟨vs, h1, h2⟩ := h
    refine ⟨vs, h1, ?_⟩
    have : ∀ {l : List AV} {us : List Value}, l.all AV.flat2 = true → All2 (R2 w ok m g) l us → All2 (R2 w' ok' m' g') (l.map (lift2 f)) us := by
      intro l us hl h
      induction h with
      | nil => exact .nil
      | cons h1 _ ih => simp only [List.all_cons, Bool.and_eq_true] at hl; exact .cons (R2.liftF hf hl.1 h1) (ih hl.2)
    exact this hx h2
  · have e1 : lift3 f x = lift2 f x := by cases x <;> first | rfl | exact absurd ⟨_, rfl⟩ ha
    have e2 : x.flat = x.flat2 := by cases x <;> first | rfl | exact absurd ⟨_, rfl⟩ ha
    rw [e1]; exact R3.of2 (R2.liftF hf (e2 ▸ hx) (R3.to2 h fun l e => ha ⟨l, e⟩))
theorem Sames.lendable {x y : ME} (h : Sames x y) : lendable y = true := by
  cases x <;> simp only [Sames] at h
  · obtain ⟨l, rfl, h⟩ := h; exact h
  · obtain ⟨xs, rfl⟩ := h; rfl
  · obtain ⟨xs, rfl⟩ := h; rfl
theorem Sames.blks {x y : ME} (h : Sames x y) (e : GE) : blks y e = blks x e := by
  cases x <;> simp only [Sames] at h
  · obtain ⟨l, rfl, _⟩ := h; rfl
  · obtain ⟨xs, rfl⟩ := h; rfl
  · obtain ⟨xs, rfl⟩ := h; rfl
end

section
variable {w0 : World} {io0 : Nat → Prop} {n : Nat} {S Sd : St} {g : GM} {a : Act} {w w' : World}
theorem call_back {L : List (Nat × Nat × List Nat)} {pl news : List Nat} {x : AV} {r : Nat → ME} {v : Value} (h0 : SR w0 io0 n S g a w) (hdist : distinct L = true)
    (hlend : ∀ p ∈ L, lendable (S.m p.2.1) = true ∧ lendable (subE (S.m p.2.1) p.2.2) = true) (hpl : ∀ id ∈ pl, knowsId L id = false) (hlook : ∀ i p, (i, p) ∈ L → lookI L i = some p)
    (hq : ∀ i id q, (i, id, q) ∈ L → q ≠ [] → (∃ v n kids, (g id).tr.get q = some (.nd v n kids)) ∧ ∃ T e dp xs, S.m id = .obj T e dp xs)
    (hp : Post (lendM S.m L) (lentG S g L pl) w news x r v w') (h : SR w0 io0 n Sd g a w) (hS : ∀ p ∈ L, Sd.m p.2.1 = S.m p.2.1) (hsub : ∀ id k, k ∈ blks (Sd.m id) (g id) → k ∈ blks (S.m id) (g id))
    (hfl : flatC r x L news = true ∨ ∀ id ∈ pl, Sd.m id = .none) {ns : List (Nat × Nat)} (hns : ∀ k c, (k, c) ∈ ns → k ∈ news ∧ Sd.m c = .none ∧ knowsId L c = false) (hnd : (ns.map (·.2)).Nodup) (hnd1 : ∀ k c c', (k, c) ∈ ns → (k, c') ∈ ns → c = c') {nio : Nat} (hnio : ∀ k c, (k, c) ∈ ns → nio ≤ c) :
    ∃ g2, SR w0 io0 n ⟨Sd.t, putN r ns (back Sd.m r L)⟩ g2 a w' ∧ Kept nio Sd g ⟨Sd.t, putN r ns (back Sd.m r L)⟩ g2 ∧ R3 w' (okOf w' (putN r ns (back Sd.m r L)) g2) (putN r ns (back Sd.m r L)) g2 (lift3 (renN ns) x) v := by
  obtain ⟨g', hgx, hkeep, hnew, hrest, hdisj', hmem', hres⟩ := hp.ex
  generalize hm3 : putN r ns (back Sd.m r L) = m3
  have hm3' : ∀ j, m3 j = match lookC ns j with
      | some i => r i
      | none => match lookJ L j with
        | some p => putE (Sd.m j) p.2 (r p.1)
        | none => Sd.m j := fun j => by rw [← hm3, putN_eq, back_eq]; cases lookC ns j <;> rfl
  generalize hg2 : (⟨fun j => match lookC ns j with
      | some i => g' i
      | none => g j, g.ex⟩ : GM) = g2
  have hg2' : ∀ j, g2 j = match lookC ns j with
      | some i => g' i
      | none => g j := fun j => by subst hg2; rfl
  have hg2x : g2.ex = g.ex := by subst hg2; rfl
  -- the callee's names
  have hlm : ∀ i p, (i, p) ∈ L → lendM S.m L i = subE (S.m p.1) p.2 ∧ (lentG S g L pl) i = lentE (g p.1) p.2 := fun i p hi => ⟨by rw [lendM_eq, hlook i p hi], by simp only [lentG, hlook i p hi]⟩
  have hio : ∀ i p, (i, p) ∈ L → Sames (subE (S.m p.1) p.2) (r i) ∧ g' i = lentE (g p.1) p.2 := fun i p hi => by
    obtain ⟨h1, h2⟩ := hlm i p hi
    have hne : lendM S.m L i ≠ .none := fun e => by have := (hlend _ hi).2; rw [h1] at e; simp only at this; rw [e] at this; cases this
    obtain ⟨h3, h4⟩ := hkeep i hne
    rw [h1] at h4; rw [h2] at h3
    exact ⟨h4, h3⟩
  have hone : ∀ j i, lookC ns j = some i → (i, j) ∈ ns ∧ i ∈ news ∧ Sd.m j = .none ∧ lookJ L j = none ∧ (∃ T e dp xs, r i = .obj T e dp xs) ∧ ∀ k, k ∈ blks (r i) (g' i) → w.heap.size ≤ k ∧ k < w'.heap.size := fun j i hj => by
    have h1 := lookC_mem hj
    obtain ⟨h2, h3, h4⟩ := hns i j h1
    obtain ⟨_, h5, h6⟩ := hnew i h2
    exact ⟨h1, h2, h3, lookJ_knows.2 h4, h5, h6⟩
  -- a name that was lent and is back
  have hback : ∀ i j q, (i, j, q) ∈ L → lookC ns j = none → m3 j = putE (S.m j) q (r i) ∧ g2 j = g j := fun i j q hi hc => by
    refine ⟨?_, by rw [hg2', hc]⟩
    rw [hm3', hc]
    simp only [lookJ_of_mem hdist hi]
    rw [hS _ hi]
  have hlc : ∀ i j q, (i, j, q) ∈ L → lookC ns j = none := fun i j q hi => by
    cases hc : lookC ns j with
    | none => rfl
    | some k =>
      have := (hone j k hc).2.2.2.1
      rw [lookJ_of_mem hdist hi] at this; cases this
  -- what is lent at a path, and lies there afterwards
  have hpath : ∀ i j q, (i, j, q) ∈ L → q ≠ [] → ∃ T e dp, ∃ xs : List (ET.ty e), ∃ T' e', ∃ ys : List (ET.ty e'), ∃ ys' : List (ET.ty e'), S.m j = .obj T e dp xs ∧ getP (.sl T e) xs q = some ⟨.sl T' e', ys⟩ ∧ r i = .obj T' e' (dp - q.length) ys' ∧ ∃ v' n' kids, (g j).tr.get q = some (.nd v' n' kids) ∧ q.length < dp + 1 := fun i j q hi hne => by
    obtain ⟨h1, h2⟩ := hlend _ hi
    simp only at h1 h2
    obtain ⟨⟨v', n', kids, hg⟩, T, e, dp, xs, hob⟩ := hq i j q hi hne
    obtain ⟨h3, _⟩ := hio i (j, q) hi
    simp only at h3
    have hM := h0.mem j
    rw [hob] at hM
    obtain ⟨T', e', ys, h4, h5, h6⟩ := Own.get q hM hg
    have hs : subE (S.m j) q = .obj T' e' (dp - q.length) ys := by
      cases q with
      | nil => exact absurd rfl hne
      | cons i0 q0 => simp only [hob, subE, h4]
    rw [hs] at h3
    obtain ⟨ys', h7⟩ := h3
    exact ⟨T, e, dp, xs, T', e', ys, ys', hob, h4, h7, v', n', kids, hg, h5⟩
  -- their blocks
  have hblk : ∀ i j q, (i, j, q) ∈ L → blks (m3 j) (g2 j) = blks (S.m j) (g j) ∨ m3 j = .none := fun i j q hi => by
    obtain ⟨h1, h2⟩ := hback i j q hi (hlc i j q hi)
    rw [h1, h2]
    by_cases hne : q = []
    · subst hne
      obtain ⟨h3, _⟩ := hio i _ hi
      have h3 : Sames (subE (S.m j) []) (r i) := h3
      have h4 := (hlend _ hi).1
      simp only at h4
      refine .inl ?_
      show blks (r i) (g j) = _
      rw [h3.blks]
      cases hmj : S.m j <;> rfl
    · obtain ⟨T, e, dp, xs, T', e', ys, ys', h3, h4, h5, _⟩ := hpath i j q hi hne
      cases q with
      | nil => exact absurd rfl hne
      | cons i0 q0 =>
        rw [h3, h5]
        simp only [putE]
        split
        · exact .inl rfl
        · exact .inr rfl
  have hb3 : ∀ j k, k ∈ blks (m3 j) (g2 j) → (∃ i, lookC ns j = some i ∧ k ∈ blks (r i) (g' i)) ∨ (lookC ns j = none ∧ k ∈ blks (Sd.m j) (g j)) := fun j k hk => by
    cases hc : lookC ns j with
    | some i =>
      rw [hm3', hg2', hc] at hk
      exact .inl ⟨i, rfl, hk⟩
    | none =>
      refine .inr ⟨rfl, ?_⟩
      cases hj : lookJ L j with
      | none => rw [hm3', hg2', hc, hj] at hk; exact hk
      | some p =>
        have hi := lookJ_mem hj
        rcases hblk _ _ _ hi with h1 | h1
        · rw [h1] at hk; rw [hS _ hi]; exact hk
        · rw [h1] at hk; cases hk
  -- what has come may be read
  have hext : (∀ id ∈ pl, Sd.m id = .none) → Ext w' (okOf w' r g') w' (okOf w' m3 g2) := fun hpln k hk => ⟨⟨hk.1, by
    rw [hg2x]; intro he; exact hk.2.1 (by rw [hgx]; exact .inl he), fun j hj => by
    rcases hb3 j k hj with ⟨i, _, h1⟩ | ⟨hc, h1⟩
    · exact hk.2.2 i h1
    · have hjp : j ∉ pl := fun hjp => by rw [hpln j hjp] at h1; cases h1
      have h2 := hsub j k h1
      refine hk.2.1 ?_
      rw [hgx]
      refine .inr ⟨⟨j, hjp, h2⟩, fun p hp2 hkp => ?_⟩
      obtain ⟨i, j', q⟩ := p
      simp only at hkp
      obtain ⟨h3, h4⟩ := hio i (j', q) hp2
      refine hk.2.2 i ?_
      rw [h4, h3.blks]; exact hkp⟩, rfl⟩
  have hdata : ∀ i e, ((∃ p, (i, p) ∈ L) ∨ i ∈ news) → lendable (r i) = true → MR w' (okOf w' r g') r g' (r i) e → MR w' (okOf w' m3 g2) m3 g2 (r i) e := fun i e hi hl hM => by
    rcases hfl with hfl | hfl
    · simp only [flatC, Bool.and_eq_true, List.all_eq_true] at hfl
      refine MR.lend_flat hl ?_ hM
      rcases hi with ⟨p, hi⟩ | hi
      · exact hfl.1.2 _ hi
      · exact hfl.2 _ hi
    · exact MR.lend_ext hl (hext hfl) hM
  have hstep : SR w0 io0 n ⟨Sd.t, m3⟩ g2 a w' ∧ Ext w (okOf w Sd.m g) w' (okOf w' m3 g2) := by
    refine h.step0 (fun j => ∃ i q, (i, j, q) ∈ L) hp.os hp.tape hp.output hp.size (fun k hk hn => hp.same k hk fun i hi => ?_) (fun j k hk => ?_) (fun j j' k hk hk' => ?_) hg2x (fun j hj => ?_) fun hx hf j => ?_
    · cases hl : lookI L i with
      | none => rw [lendM_eq, hl] at hi; cases hi
      | some p =>
        have hm := lookI_mem hl
        obtain ⟨h1, h2⟩ := hlm i p hm
        rw [h1, h2] at hi
        exact hn p.1 ⟨i, p.2, hm⟩ (by rw [hS _ hm]; exact lent_blks hi)
    · rcases hb3 j k hk with ⟨i, hc, h1⟩ | ⟨_, h1⟩
      · exact .inr ((hone j i hc).2.2.2.2.2 k h1)
      · exact .inl ⟨j, h1⟩
    · rcases hb3 j k hk with ⟨i, hc, h1⟩ | ⟨hc, h1⟩ <;> rcases hb3 j' k hk' with ⟨i', hc', h1'⟩ | ⟨hc', h1'⟩
      · have e := hdisj' i i' k h1 h1'
        subst e
        exact hnd1 i j j' (lookC_mem hc) (lookC_mem hc')
      · have := ((hone j i hc).2.2.2.2.2 k h1).1; have := (h.own j' k h1').1; omega
      · have := ((hone j' i' hc').2.2.2.2.2 k h1').1; have := (h.own j k h1).1; omega
      · exact h.disj j j' k h1 h1'
    · have hc : lookC ns j = none := by
        cases hc : lookC ns j with
        | none => rfl
        | some i => exact absurd (hone j i hc).2.2.1 hj
      have hgj : g2 j = g j := by rw [hg2', hc]
      cases hjl : lookJ L j with
      | none => exact Sim.of_eq (by rw [hm3', hc, hjl]) hgj
      | some p =>
        obtain ⟨i, q⟩ := p
        have hi : (i, j, q) ∈ L := lookJ_mem hjl
        obtain ⟨h1, _⟩ := hback i j q hi hc
        have hSj := hS _ hi
        simp only at hSj
        by_cases hne : q = []
        · subst hne
          obtain ⟨h3, _⟩ := hio i _ hi
          have h3 : Sames (subE (S.m j) []) (r i) := h3
          have h1 : m3 j = r i := h1
          refine ⟨fun l hl => ?_, fun e k xs hl => ?_, fun T e dp xs hl => ?_⟩
          all_goals rw [hSj] at hl; rw [hl] at h3; simp only [subE, Sames] at h3
          · obtain ⟨l', h3, _⟩ := h3; exact ⟨⟨l', h1.trans h3⟩, by rw [hgj]⟩
          · obtain ⟨l', h3⟩ := h3; exact ⟨⟨l', h1.trans h3⟩, by rw [hgj]⟩
          · obtain ⟨l', h3⟩ := h3; exact ⟨⟨l', h1.trans h3⟩, by rw [hgj]⟩
        · obtain ⟨T, e, dp, xs, T', e', ys, ys', h3, h4, h5, v', n', kids, h6, h7⟩ := hpath i j q hi hne
          refine ⟨fun l hl => ?_, fun e k xs hl => ?_, fun T2 e2 dp2 xs2 hl => ?_⟩
          · rw [hSj, h3] at hl; cases hl
          · rw [hSj, h3] at hl; cases hl
          · rw [hSj, h3] at hl
            injection hl with q1 q2 q3 q4
            subst q1; subst q2; subst q3
            refine ⟨?_, by rw [hgj]⟩
            rw [h1, h3, h5]
            cases q with
            | nil => exact absurd rfl hne
            | cons i0 q0 =>
              simp only [putE]
              have hM := h.mem j
              rw [hSj, h3] at hM
              have : ∃ z, setP (.sl T e) xs (i0 :: q0) (.sl T' e') ys' = some z := by
                have key : ∀ (q : List Nat) {E0 : ET} {x0 : E0.ty} {e1 : ET} {y0 y1 : e1.ty}, getP E0 x0 q = some ⟨e1, y0⟩ → ∃ z, setP E0 x0 q e1 y1 = some z := by
                  intro q
                  induction q with
                  | nil =>
                    intro E0 x0 e1 y0 y1 hh
                    simp only [getP, Option.some.injEq] at hh
                    cases hh
                    exact ⟨y1, by simp [setP]⟩
                  | cons i q ih =>
                    intro E0 x0 e1 y0 y1 hh
                    cases E0 <;> simp only [getP] at hh <;> try (cases hh; done)
                    obtain ⟨z, hz⟩ := ih (y1 := y1) hh
                    exact ⟨List.set x0 i z, by simp only [setP, hz]⟩
                exact key _ h4
              obtain ⟨z, hz⟩ := this
              exact ⟨z, by rw [hz]⟩
    · cases hc : lookC ns j with
      | some i =>
        obtain ⟨_, h2, _, _, ⟨T, e, dp, xs, h3⟩, _⟩ := hone j i hc
        have e1 : m3 j = r i := by rw [hm3', hc]
        have e2 : g2 j = g' i := by rw [hg2', hc]
        rw [e1, e2]
        exact hdata i _ (.inr h2) (by rw [h3]; rfl) (hmem' i)
      | none =>
        have hgj : g2 j = g j := by rw [hg2', hc]
        rw [hgj]
        cases hjl : lookJ L j with
        | none =>
          have e1 : m3 j = Sd.m j := by rw [hm3', hc, hjl]
          rw [e1]
          refine MR.map0 hx hf (fun k hk => hp.same k (h.own j k hk).1 fun i hi => ?_) (h.mem j)
          cases hl : lookI L i with
          | none => rw [lendM_eq, hl] at hi; cases hi
          | some p =>
            have hm := lookI_mem hl
            obtain ⟨h1, h2⟩ := hlm i p hm
            rw [h1, h2] at hi
            have hi := lent_blks hi
            have e2 := h0.disj j p.1 k (hsub j k hk) hi
            have := knowsId_iff.2 ⟨i, p.2, hm⟩
            rw [← e2, lookJ_knows.1 hjl] at this; cases this
        | some p =>
          obtain ⟨i, q⟩ := p
          have hi : (i, j, q) ∈ L := lookJ_mem hjl
          obtain ⟨h1, _⟩ := hback i j q hi hc
          rw [h1]
          obtain ⟨h3, h4⟩ := hio i (j, q) hi
          have hMr := hmem' i
          rw [h4] at hMr
          have hMr := hdata i _ (.inl ⟨_, hi⟩) h3.lendable hMr
          by_cases hne : q = []
          · subst hne
            rw [lent_root] at hMr
            exact hMr
          · obtain ⟨T, e, dp, xs, T', e', ys, ys', h5, h6, h7, v', n', kids, h8, h9⟩ := hpath i j q hi hne
            have hSj := hS _ hi
            simp only at hSj
            have hM := h.mem j
            rw [hSj, h5] at hM
            rw [h7] at hMr
            have hMr : Own w' _ (dp - q.length + 1) (.sl T' e') ys' (lentE (g j) q).tr (lentE (g j) q).tr.v := hMr
            simp only [lentE, h8, Option.getD_some] at hMr
            have hd : dp + 1 - q.length = dp - q.length + 1 := by omega
            have hsame : ∀ k ∈ (g j).tr.blocks, k ∉ (Tr.nd v' n' kids).blocks → w'.heap[k]? = w.heap[k]? := fun k hk hkn => by
              refine hp.same k (h.own j k (by rw [hSj, h5]; exact hk)).1 fun i' hi' => ?_
              cases hl : lookI L i' with
              | none => rw [lendM_eq, hl] at hi'; cases hi'
              | some p =>
                have hm := lookI_mem hl
                obtain ⟨h1', h2'⟩ := hlm i' p hm
                rw [h1', h2'] at hi'
                have e2 := h0.disj j p.1 k (by rw [h5]; exact hk) (lent_blks hi')
                obtain ⟨p1, p2⟩ := p
                simp only at e2 hi' hm
                subst e2
                have e3 := lookJ_of_mem hdist hm
                rw [hjl] at e3
                injection e3 with e3
                injection e3 with e3 e4
                subst e4
                rw [h5] at hi'
                have hi' : k ∈ blks (subE (.obj T e dp xs) q) (lentE (g j) q) := hi'
                cases q with
                | nil => exact absurd rfl hne
                | cons i0 q0 =>
                  simp only [subE, h6] at hi'
                  have hi' : k ∈ (lentE (g j) (i0 :: q0)).tr.blocks := hi'
                  simp only [lentE, h8, Option.getD_some] at hi'
                  exact hkn hi'
            obtain ⟨z, hz, ho⟩ := Own.put (ok' := okOf w' m3 g2) (w' := w') hx q hM h8 h6 (s := .nd v' n' kids) (zs := ys') (by rw [hd]; exact hMr) (fun k hk => .inl hk) hsame
            cases q with
            | nil => exact absurd rfl hne
            | cons i0 q0 =>
              rw [h5, h7]
              simp only [putE, hz]
              rw [Tr.put_get h8] at ho
              exact ho
  obtain ⟨hsr, hx⟩ := hstep
  refine ⟨g2, hsr, ⟨fun k hk => by rw [hg2x]; exact hk, fun j hj => ?_⟩, ?_⟩
  · have hc : lookC ns j = none := by
      cases hc : lookC ns j with
      | none => rfl
      | some i => have := hnio i j (lookC_mem hc); omega
    refine ⟨fun _ => by rw [hg2', hc], ?_⟩
    show KM (Sd.m j) (m3 j)
    cases hjl : lookJ L j with
    | none => rw [hm3', hc, hjl]; exact .refl _
    | some p =>
      obtain ⟨i, q⟩ := p
      have hi : (i, j, q) ∈ L := lookJ_mem hjl
      obtain ⟨h1, _⟩ := hback i j q hi hc
      have hSj := hS _ hi
      simp only at hSj
      by_cases hne : q = []
      · subst hne
        obtain ⟨h3, _⟩ := hio i _ hi
        have h3 : Sames (subE (S.m j) []) (r i) := h3
        rw [hSj, h1]
        show KM (S.m j) (r i)
        cases hmj : S.m j <;> rw [hmj] at h3 <;> simp only [subE, Sames] at h3
        · obtain ⟨l, h3, _⟩ := h3; exact .inr ⟨l, h3⟩
        · exact .inr h3
        · exact .inr h3
      · obtain ⟨T, e, dp, xs, T', e', ys, ys', h5, h6, h7, _⟩ := hpath i j q hi hne
        rw [hSj, h1, h5, h7]
        cases q with
        | nil => exact absurd rfl hne
        | cons i0 q0 =>
          simp only [putE]
          split
          · exact .inr ⟨_, rfl⟩
          · exact .inl rfl
  · have ref : ∀ k q u, R0 w' (okOf w' r g') r g' (.ref k q) u → R0 w' (okOf w' m3 g2) m3 g2 (renN ns (.ref k q)) u := fun k q u hu => by
      simp only [renN]
      split
      · rename_i c hcl
        have hmem := lookN_mem hcl
        have hc := lookC_of_mem hnd hmem
        obtain ⟨⟨T, e, dp, xs, h1⟩, h2⟩ := hu
        have e1 : m3 c = r k := by rw [hm3', hc]
        have e2 : g2 c = g' k := by rw [hg2', hc]
        exact ⟨⟨T, e, dp, xs, e1.trans h1⟩, by rw [e2]; exact h2⟩
      · trivial
    rcases hfl with hfl | hfl
    · simp only [flatC, Bool.and_eq_true] at hfl
      refine R3.liftF (fun y u hy hu => ?_) hfl.1.1 hres
      cases y <;> simp only [AV.flat0, Bool.false_eq_true] at hy
      · exact Rd.flat hy hu
      · obtain ⟨vs, h1, h2, h3⟩ := hu; exact ⟨vs, h1, h2, h3.mono fun _ _ => Rd.flat hy⟩
      · exact ref _ _ _ hu
      · exact hu
      · exact hu
    · have hx' := hext hfl
      refine R3.lift (fun y u hu => ?_) hres
      cases y with
      | ref k q => exact ref k q u hu
      | ptr k off => trivial
      | eptr k q i => trivial
      | d e x => exact Rd.mono hx' hu
      | arr e n x => obtain ⟨vs, h1, h2, h3⟩ := hu; exact ⟨vs, h1, h2, h3.mono fun _ _ => Rd.mono hx'⟩
      | iptr l => exact R0.sim (x := .iptr l) (m' := m3) (g' := g2) hx' (fun j hj => by simp [AV.id?] at hj) hu
      | nilS T e => exact hu
      | nilI => exact hu
      | skip => exact hu
      | undef => trivial
      | agg l => exact hu.elim
      | tup l => exact hu.elim
      | fn f l => exact hu.elim
end
end Go.Proofs.Ytckieogkaodkdaa.V
