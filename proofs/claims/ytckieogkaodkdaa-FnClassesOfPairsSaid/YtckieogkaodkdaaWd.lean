/- What becomes of a state when something is done: names dropped, new ones, memory written in place. -/
import Derived.Test.YtckieogkaodkdaaWc
set_option linter.unusedVariables false
set_option linter.unusedSimpArgs false
namespace Go.Proofs.Ytckieogkaodkdaa.V
open Go Go.RowKit

section
variable {w0 : World} {io : Nat → Prop} {n : Nat} {S : St} {g : GM} {a : Act} {w w' : World} {ok ok' : Nat → Prop} {m m' : Nat → ME} {g' : GM}
theorem lift1_id (x : AV) {ok : Nat → Prop} {v : Value} (h : R1 w ok m g x v) : lift1 (fun x => x) x = x := by
  cases x <;> try rfl
  rename_i F l
  obtain ⟨vs, _, h⟩ := h
  simp only [lift1, List.map_id']
  have : l.all AV.isCap = true := List.all_eq_true.2 fun y hy => by
    obtain ⟨i, hi⟩ := List.mem_iff_getElem?.1 hy
    obtain ⟨u, _, hr⟩ := h.get i y hi
    exact hr.1
  rw [this]; rfl
/-- A name that is spoken of stands for something. -/
theorem R0.live {x : AV} {v : Value} (h : R0 w ok m g x v) {id : Nat} (hi : x.id? = some id) : m id ≠ .none := by
  cases x <;> simp [AV.id?] at hi <;> subst hi
  · obtain ⟨_, ⟨l, h⟩ | ⟨e, n, xs, h⟩⟩ := h <;> rw [h] <;> simp
  · obtain ⟨⟨T, e, dp, xs, h⟩, _⟩ := h; rw [h]; simp
  · rcases h with ⟨⟨T, e, dp, xs, h⟩, _⟩ | ⟨_, ⟨e, n, xs, h, _⟩, _⟩ <;> rw [h] <;> simp

/-- Something is done: J are the names whose blocks are written in place. -/
theorem SR.step (J : Nat → Prop) {f : AV → AV} (h : SR w0 io n S g a w) (hos : w'.os = w.os) (hta : w'.tape = w.tape) (hou : w'.output = w.output) (hsize : w.heap.size ≤ w'.heap.size)
    (hsame : ∀ k, k < w.heap.size → (∀ id, J id → k ∉ blks (S.m id) (g id)) → w'.heap[k]? = w.heap[k]?)
    (hb : ∀ id k, k ∈ blks (m' id) (g' id) → (∃ id0, k ∈ blks (S.m id0) (g id0)) ∨ (w.heap.size ≤ k ∧ k < w'.heap.size))
    (hdisj : ∀ id id' k, k ∈ blks (m' id) (g' id) → k ∈ blks (m' id') (g' id') → id = id') (hgx : g'.ex = g.ex)
    (hall : Ext w (okOf w S.m g) w' (okOf w' m' g') → (∀ x v, R0 w (okOf w S.m g) S.m g x v → R0 w' (okOf w' m' g') m' g' (f x) v) ∧ ((∀ x v, R0 w (okOf w S.m g) S.m g x v → R0 w' (okOf w' m' g') m' g' (f x) v) → ∀ id, MR w' (okOf w' m' g') m' g' (m' id) (g' id))) :
    SR w0 io n ⟨fun i => lift3 f (S.t i), m'⟩ g' a w' ∧ Ext w (okOf w S.m g) w' (okOf w' m' g') := by
  have hx : Ext w (okOf w S.m g) w' (okOf w' m' g') := fun k hk => ⟨⟨Nat.lt_of_lt_of_le hk.1 hsize, by rw [hgx]; exact hk.2.1, fun id hi => by
    rcases hb id k hi with ⟨id0, h0⟩ | ⟨h0, _⟩
    · exact hk.2.2 id0 h0
    · have := hk.1; omega⟩, hsame k hk.1 fun id _ => hk.2.2 id⟩
  obtain ⟨hf, hM⟩ := hall hx
  refine ⟨⟨hos.trans h.os, hta.trans h.tape, hou.trans h.output, Nat.le_trans h.size hsize, fun k hk hio => (hsame k (Nat.lt_of_lt_of_le hk h.size) fun id _ hm => ?_).trans (h.same k hk hio), fun id k hk => ?_, hdisj, hM hf, h.n, h.defers, fun k hk => Nat.lt_of_lt_of_le (h.ex k (hgx ▸ hk)) hsize, fun id k hk => ?_, fun t v ht => R3.lift hf (h.tmps t v ht)⟩, hx⟩
  · rcases (h.own id k hm).2 with h1 | h1
    · omega
    · exact hio h1
  · rcases hb id k hk with ⟨id0, h0⟩ | ⟨h1, h2⟩
    · exact ⟨Nat.lt_of_lt_of_le (h.own id0 k h0).1 hsize, (h.own id0 k h0).2⟩
    · exact ⟨h2, .inl (Nat.le_trans h.size h1)⟩
  · rw [hgx]
    rcases hb id k hk with ⟨id0, h0⟩ | ⟨h1, h2⟩
    · exact h.notex id0 k h0
    · intro he; have := h.ex k he; omega
/-- The same, with references left alone. -/
theorem SR.step0 (J : Nat → Prop) (h : SR w0 io n S g a w) (hos : w'.os = w.os) (hta : w'.tape = w.tape) (hou : w'.output = w.output) (hsize : w.heap.size ≤ w'.heap.size)
    (hsame : ∀ k, k < w.heap.size → (∀ id, J id → k ∉ blks (S.m id) (g id)) → w'.heap[k]? = w.heap[k]?)
    (hb : ∀ id k, k ∈ blks (m' id) (g' id) → (∃ id0, k ∈ blks (S.m id0) (g id0)) ∨ (w.heap.size ≤ k ∧ k < w'.heap.size))
    (hdisj : ∀ id id' k, k ∈ blks (m' id) (g' id) → k ∈ blks (m' id') (g' id') → id = id') (hgx : g'.ex = g.ex) (hsim : ∀ id, S.m id ≠ .none → Sim S.m g m' g' id)
    (hM : Ext w (okOf w S.m g) w' (okOf w' m' g') → (∀ x v, R0 w (okOf w S.m g) S.m g x v → R0 w' (okOf w' m' g') m' g' x v) → ∀ id, MR w' (okOf w' m' g') m' g' (m' id) (g' id)) :
    SR w0 io n ⟨S.t, m'⟩ g' a w' ∧ Ext w (okOf w S.m g) w' (okOf w' m' g') := by
  have hx : Ext w (okOf w S.m g) w' (okOf w' m' g') := fun k hk => ⟨⟨Nat.lt_of_lt_of_le hk.1 hsize, by rw [hgx]; exact hk.2.1, fun id hi => by
    rcases hb id k hi with ⟨id0, h0⟩ | ⟨h0, _⟩
    · exact hk.2.2 id0 h0
    · have := hk.1; omega⟩, hsame k hk.1 fun id _ => hk.2.2 id⟩
  have hf : ∀ x v, R0 w (okOf w S.m g) S.m g x v → R0 w' (okOf w' m' g') m' g' x v := fun x v hr => R0.sim hx (fun id hi => hsim id (hr.live hi)) hr
  refine ⟨⟨hos.trans h.os, hta.trans h.tape, hou.trans h.output, Nat.le_trans h.size hsize, fun k hk hio => (hsame k (Nat.lt_of_lt_of_le hk h.size) fun id _ hm => ?_).trans (h.same k hk hio), fun id k hk => ?_, hdisj, hM hx hf, h.n, h.defers, fun k hk => Nat.lt_of_lt_of_le (h.ex k (hgx ▸ hk)) hsize, fun id k hk => ?_, fun t v ht => R3.map0 hf (h.tmps t v ht)⟩, hx⟩
  · rcases (h.own id k hm).2 with h1 | h1
    · omega
    · exact hio h1
  · rcases hb id k hk with ⟨id0, h0⟩ | ⟨h1, h2⟩
    · exact ⟨Nat.lt_of_lt_of_le (h.own id0 k h0).1 hsize, (h.own id0 k h0).2⟩
    · exact ⟨h2, .inl (Nat.le_trans h.size h1)⟩
  · rw [hgx]
    rcases hb id k hk with ⟨id0, h0⟩ | ⟨h1, h2⟩
    · exact h.notex id0 k h0
    · intro he; have := h.ex k he; omega

/-- A name that stands for nothing stands for something new. -/
theorem SR.install (h : SR w0 io n S g a w) (hmore : More w w') {d : Nat} (hd : S.m d = .none) {M : ME} {G : GE} (hnew : ∀ k, k ∈ blks M G → w.heap.size ≤ k ∧ k < w'.heap.size)
    (hM : Ext w (okOf w S.m g) w' (okOf w' (upd S.m d M) (g.put d G)) → (∀ x v, R0 w (okOf w S.m g) S.m g x v → R0 w' (okOf w' (upd S.m d M) (g.put d G)) (upd S.m d M) (g.put d G) x v) → MR w' (okOf w' (upd S.m d M) (g.put d G)) (upd S.m d M) (g.put d G) M G) :
    SR w0 io n ⟨S.t, upd S.m d M⟩ (g.put d G) a w' ∧ Ext w (okOf w S.m g) w' (okOf w' (upd S.m d M) (g.put d G)) := by
  have hmd : (upd S.m d M) d = M := by simp [upd]
  have hmj : ∀ j, j ≠ d → (upd S.m d M) j = S.m j := fun j hj => by simp [upd, beq_ne hj]
  have hbj : ∀ j k, k ∈ blks ((upd S.m d M) j) ((g.put d G) j) → (j = d ∧ w.heap.size ≤ k ∧ k < w'.heap.size) ∨ (j ≠ d ∧ k ∈ blks (S.m j) (g j)) := fun j k hk => by
    by_cases e : j = d
    · subst e; rw [hmd, GM.put_self] at hk; exact .inl ⟨rfl, hnew k hk⟩
    · rw [hmj j e, GM.put_ne g _ e] at hk; exact .inr ⟨e, hk⟩
  refine h.step0 (fun _ => False) hmore.os hmore.tape hmore.output hmore.size (fun k hk _ => hmore.same k hk) (fun j k hk => ?_) (fun j j' k hk hk' => ?_) rfl (fun j hj => ?_) fun hx hf j => ?_
  · rcases hbj j k hk with ⟨_, h1⟩ | ⟨_, h1⟩
    · exact .inr h1
    · exact .inl ⟨j, h1⟩
  · rcases hbj j k hk with ⟨e1, h1, _⟩ | ⟨_, h1⟩ <;> rcases hbj j' k hk' with ⟨e2, h2, _⟩ | ⟨_, h2⟩
    · rw [e1, e2]
    · have := (h.own j' k h2).1; omega
    · have := (h.own j k h1).1; omega
    · exact h.disj j j' k h1 h2
  · have e : j ≠ d := fun e => hj (e ▸ hd)
    exact Sim.of_eq (hmj j e) (GM.put_ne g _ e)
  · by_cases e : j = d
    · subst e; rw [hmd, GM.put_self]; exact hM hx hf
    · rw [hmj j e, GM.put_ne g _ e]; exact MR.map0 hx hf (fun k hk => hmore.same k (h.own j k hk).1) (h.mem j)
theorem drop_none (d : Nat) (m : Nat → ME) : (dropM d m).m d = .none := by simp [dropM, upd]
theorem drop_other {d j : Nat} (m : Nat → ME) (h : j ≠ d) : (dropM d m).m j = liftM (dropF d) (m j) := by simp [dropM, upd, beq_ne h]

/-! ### the names that were handed in -/
/-- The names that were handed in (below nio) are what they were, or forgotten. -/
def KM (x y : ME) : Prop := y = .none ∨ match x with
  | .none => False
  | .box _ => ∃ l, y = .box l
  | .arr e n xs => ∃ xs' : List e.ty, y = .arr e n xs'
  | .obj T e dp xs => ∃ xs' : List e.ty, y = .obj T e dp xs'
def Kept (nio : Nat) (S : St) (g : GM) (S' : St) (g' : GM) : Prop := (∀ k, g.ex k → g'.ex k) ∧ ∀ i, i < nio → (S'.m i ≠ .none → g' i = g i) ∧ KM (S.m i) (S'.m i)
theorem KM.refl (x : ME) : KM x x := by
  cases x with
  | none => exact .inl rfl
  | box l => exact .inr ⟨l, rfl⟩
  | arr e n xs => exact .inr ⟨xs, rfl⟩
  | obj T e dp xs => exact .inr ⟨xs, rfl⟩
theorem KM.trans {x y z : ME} (h : KM x y) (k : KM y z) : KM x z := by
  rcases k with rfl | k
  · exact .inl rfl
  rcases h with rfl | h
  · exact k.elim
  cases x with
  | none => exact h.elim
  | box l => obtain ⟨l', rfl⟩ := h; exact .inr k
  | arr e n xs => obtain ⟨xs', rfl⟩ := h; exact .inr k
  | obj T e dp xs => obtain ⟨xs', rfl⟩ := h; exact .inr k
theorem KM.none {x y : ME} (h : KM x y) (hx : x = .none) : y = .none := by
  rcases h with h | h
  · exact h
  · subst hx; exact h.elim
theorem KM.lift (f : AV → AV) (x : ME) : KM x (liftM f x) := by
  cases x with
  | none => exact .inl rfl
  | box l => exact .inr ⟨_, rfl⟩
  | arr e n xs => exact .inr ⟨xs, rfl⟩
  | obj T e dp xs => exact .inr ⟨xs, rfl⟩
variable {nio : Nat}
theorem Kept.refl (S : St) (g : GM) : Kept nio S g S g := ⟨fun _ h => h, fun _ _ => ⟨fun _ => rfl, .refl _⟩⟩
theorem Kept.of_m {S S' : St} {g : GM} (h : S'.m = S.m) : Kept nio S g S' g := ⟨fun _ h => h, fun i _ => ⟨fun _ => rfl, by rw [h]; exact .refl _⟩⟩
theorem Kept.trans {S S' S2 : St} {g g' g2 : GM} (h : Kept nio S g S' g') (k : Kept nio S' g' S2 g2) : Kept nio S g S2 g2 :=
  ⟨fun x hx => k.1 x (h.1 x hx), fun i hi => by
    obtain ⟨h1, h2⟩ := h.2 i hi
    obtain ⟨k1, k2⟩ := k.2 i hi
    exact ⟨fun hn => (k1 hn).trans (h1 fun he => hn (k2.none he)), h2.trans k2⟩⟩
/-- Names are shuffled, those handed in kept or forgotten. -/
theorem Kept.act {S : St} {g g' : GM} {M : Mo} (hgx : ∀ k, g.ex k → g'.ex k) (hg : ∀ i, i < nio → M.m i ≠ .none → g' i = g i) (hm : ∀ i, i < nio → KM (S.m i) (M.m i)) : Kept nio S g (S.act M) g' := ⟨hgx, fun i hi => ⟨hg i hi, hm i hi⟩⟩
theorem KM.drop (id i : Nat) (m : Nat → ME) : KM (m i) ((dropM id m).m i) := by
  by_cases e : i = id
  · subst e; rw [drop_none]; exact .inl rfl
  · rw [drop_other m e]; exact .lift ..
theorem KM.freeze (id i : Nat) (m : Nat → ME) : KM (m i) ((freezeM id m).m i) := by
  unfold freezeM
  split
  · by_cases e : i = id
    · subst e; simp only [upd, beq_self]; exact .inl rfl
    · simp only [upd, beq_ne e]; exact .lift ..
  · exact .refl _
theorem KM.still (id i : Nat) (m : Nat → ME) : KM (m i) ((stillM id m).m i) := by
  unfold stillM
  split
  · rename_i l _
    cases l.all AV.isD
    · exact .refl _
    · by_cases e : i = id
      · subst e; simp only [cond_true, upd, beq_self]; exact .inl rfl
      · simp only [cond_true, upd, beq_ne e]; exact .lift ..
  · exact .refl _
theorem Kept.drop (S : St) (g : GM) (id : Nat) : Kept nio S g (S.act (dropM id S.m)) g := .act (fun _ h => h) (fun _ _ _ => rfl) fun i _ => .drop ..
theorem Kept.freeze (S : St) (g : GM) (id : Nat) : Kept nio S g (S.act (freezeM id S.m)) g := .act (fun _ h => h) (fun _ _ _ => rfl) fun i _ => .freeze ..
theorem Kept.still (S : St) (g : GM) (id : Nat) : Kept nio S g (S.act (stillM id S.m)) g := .act (fun _ h => h) (fun _ _ _ => rfl) fun i _ => .still ..
theorem act_next (S : St) (A : Mo) (B : (Nat → ME) → Mo) : S.act (A.next B) = (S.act A).act (B (S.act A).m) := rfl
theorem act_nil (S : St) : S.act (.nil S.m) = S := rfl
theorem SR.freezeIn (h : SR w0 io n S g a w) (l : List Nat) : SR w0 io n (S.act (freezeInM l S.m)) g a w := by
  induction l generalizing S with
  | nil => exact h
  | cons x l ih => rw [freezeInM, act_next]; exact ih (h.freeze x)
theorem Kept.freezeIn (S : St) (g : GM) (l : List Nat) : Kept nio S g (S.act (freezeInM l S.m)) g := by
  induction l generalizing S with
  | nil => exact .refl _ _
  | cons x l ih => rw [freezeInM, act_next]; exact (Kept.freeze S g x).trans (ih _)
theorem SR.stillIn (h : SR w0 io n S g a w) (l : List Nat) : SR w0 io n (S.act (stillInM l S.m)) g a w := by
  induction l generalizing S with
  | nil => exact h
  | cons x l ih => rw [stillInM, act_next]; exact ih (h.still x)
theorem Kept.stillIn (S : St) (g : GM) (l : List Nat) : Kept nio S g (S.act (stillInM l S.m)) g := by
  induction l generalizing S with
  | nil => exact .refl _ _
  | cons x l ih => rw [stillInM, act_next]; exact (Kept.still S g x).trans (ih _)
theorem SR.dropIn (h : SR w0 io n S g a w) (l : List Nat) : SR w0 io n (S.act (dropInM l S.m)) g a w := by
  induction l generalizing S with
  | nil => exact h
  | cons x l ih => rw [dropInM, act_next]; exact ih (h.drop x)
theorem Kept.dropIn (S : St) (g : GM) (l : List Nat) : Kept nio S g (S.act (dropInM l S.m)) g := by
  induction l generalizing S with
  | nil => exact .refl _ _
  | cons x l ih => rw [dropInM, act_next]; exact (Kept.drop S g x).trans (ih _)
theorem dropIn_keep {l : List Nat} {m : Nat → ME} {j : Nat} (h : m j = .none) : (dropInM l m).m j = .none := by
  induction l generalizing m with
  | nil => exact h
  | cons x l ih =>
    rw [dropInM]
    refine ih ?_
    by_cases e : j = x
    · subst e; exact drop_none _ _
    · rw [drop_other m e, h]; rfl
theorem dropIn_none {l : List Nat} {m : Nat → ME} {j : Nat} (h : j ∈ l) : (dropInM l m).m j = .none := by
  induction l generalizing m with
  | nil => cases h
  | cons x l ih =>
    rw [dropInM]
    by_cases e : j = x
    · subst e; exact dropIn_keep (drop_none _ _)
    · exact ih ((List.mem_cons.1 h).resolve_left e)
/-- The slice 'id' is called k from here on. -/
theorem SR.ren (h : SR w0 io n S g a w) (id k : Nat) (hk : nio ≤ k) : ∃ g', SR w0 io n (S.act (renM id k S.m)) g' a w ∧ Kept nio S g (S.act (renM id k S.m)) g' := by
  unfold renM
  cases hb : Nat.beq id k with
  | true => exact ⟨g, h, .refl _ _⟩
  | false =>
    simp only [cond_false, act_next]
    obtain ⟨g', h1, h2, h3⟩ := (h.drop k).ren0 (id := id) (k := k) (drop_none k S.m)
    refine ⟨g', h1, (Kept.drop S g k).trans (.act (fun _ h => h2 ▸ h) (fun i hi _ => h3 i (by omega)) fun i hi => ?_)⟩
    unfold renM0
    split
    · have e1 : i ≠ k := by omega
      by_cases e : i = id
      · subst e; simp only [upd, beq_ne e1, beq_self]; exact .inl rfl
      · simp only [upd, beq_ne e1, beq_ne e]; exact .lift ..
    · exact .refl _
end

/-! ### new names -/
section
variable {P : Program} {E : Env} {w0 : World} {io : Nat → Prop} {n : Nat} {S : St} {g : GM} {a : Act} {w w' : World}
theorem Own.tv {ok : Nat → Prop} {d T : Nat} {e : ET} {xs : List e.ty} {t : Tr} {v : Value} (h : Own w ok (d + 1) (.sl T e) xs t v) : t.v = v := by
  obtain ⟨_, _, _, rfl, _⟩ := h; rfl
theorem act_set_m (S : St) (d : Nat) (x : AV) : (S.set d x).m = S.m := rfl
/-- A new slice of the call's own. -/
theorem SR.newObj (h : SR w0 io n S g a w) {d T dp : Nat} {e : ET} {xs : List e.ty} {V : Value} {t : Tr} (hmore : More w w') (ho : Own w' (okOf w S.m g) (dp + 1) (.sl T e) xs t V)
    (hb : ∀ k, k ∈ t.blocks → w.heap.size ≤ k ∧ k < w'.heap.size) {nio : Nat} (hd : nio ≤ d) :
    ∃ g', SR w0 io n ((S.act (newObjM d T e dp xs S.m)).set d (.ref d [])) g' (a.put (some d) V) w' ∧ Kept nio S g ((S.act (newObjM d T e dp xs S.m)).set d (.ref d [])) g' := by
  have h1 := h.drop d
  have hbl : ∀ j, blks ((dropM d S.m).m j) (g j) = if j = d then [] else blks (S.m j) (g j) := fun j => by
    by_cases e : j = d
    · subst e; rw [drop_none]; simp [blks]
    · rw [drop_other _ e, blks_lift, if_neg e]
  have hok : ∀ k, okOf w S.m g k → okOf w (dropM d S.m).m g k := fun k hk => ⟨hk.1, hk.2.1, fun j hj => by rw [hbl] at hj; split at hj; cases hj; exact hk.2.2 j hj⟩
  obtain ⟨h2, hx⟩ := h1.install (d := d) (M := .obj T e dp xs) (G := ⟨0, t⟩) hmore (drop_none d S.m) hb fun hx _ => by
    show Own w' _ (dp + 1) (.sl T e) xs t t.v
    rw [ho.tv]
    exact Own.mono (fun k hk => ⟨(hx k (hok k hk)).1, rfl⟩) (fun _ _ => rfl) ho
  refine ⟨g.put d ⟨0, t⟩, ?_, ?_⟩
  · refine SR.put (S := S.act (newObjM d T e dp xs S.m)) h2 d (.ref d []) V ⟨⟨T, e, dp, xs, by simp [newObjM, St.act, upd]⟩, ?_⟩
    rw [GM.put_self]
    obtain ⟨n1, kids, cs, rfl, _⟩ := ho
    exact ⟨n1, kids, rfl⟩
  · refine ⟨fun _ h => h, fun i hi => ?_⟩
    have e1 : i ≠ d := by omega
    refine ⟨fun _ => GM.put_ne g _ e1, ?_⟩
    show KM (S.m i) (upd (dropM d S.m).m d _ i)
    simp only [upd, beq_ne e1, cond_false]
    exact .drop ..
/-- Nil slices become the call's own. -/
theorem own_nil (w : World) (ok : Nat → Prop) (T dp : Nat) (e : ET) : Own w ok (dp + 1) (.sl T e) [] (.nd (.slice none 0 0) 0 fun _ => .lf) (.slice none 0 0) :=
  ⟨0, _, [], rfl, rfl, World.ownsRow_nil w 0 T 1, fun i x c hi => by simp at hi, fun i hi => by omega, fun i j k hi => by omega⟩
theorem nil_blocks {k : Nat} (h : k ∈ (Tr.nd (.slice none 0 0) 0 fun _ => .lf).blocks) : False := by
  rcases Tr.mem_nd.1 h with hk | ⟨i, hi, _⟩
  · cases hk
  · omega
def nilG : GE := ⟨0, .nd (.slice none 0 0) 0 fun _ => .lf⟩
theorem putL_other {l : List (Nat × ME)} {m : Nat → ME} {j : Nat} (h : ∀ p ∈ l, p.1 ≠ j) : putL l m j = m j := by
  induction l with
  | nil => rfl
  | cons p l ih =>
    obtain ⟨k, x⟩ := p
    have e : j ≠ k := fun e => h (k, x) (List.mem_cons_self ..) e.symm
    simp only [putL, upd, beq_ne e, cond_false]
    exact ih fun p hp => h p (List.mem_cons_of_mem _ hp)
/-- Names that stand for nothing come to stand for nil slices. -/
theorem SR.putNil : ∀ (l : List (Nat × ME)) {S : St} {g : GM}, SR w0 io n S g a w → (∀ p ∈ l, S.m p.1 = .none ∧ ∃ T e dp, p.2 = .obj T e dp []) → (l.map (·.1)).Nodup → ∀ {nio : Nat}, (∀ p ∈ l, nio ≤ p.1) →
    ∃ g', SR w0 io n ⟨S.t, putL l S.m⟩ g' a w ∧ Kept nio S g ⟨S.t, putL l S.m⟩ g' ∧ (∀ p ∈ l, (putL l S.m) p.1 = p.2 ∧ g' p.1 = nilG) ∧ g'.ex = g.ex ∧ (∀ j, (∀ p ∈ l, p.1 ≠ j) → g' j = g j) ∧ Ext w (okOf w S.m g) w (okOf w (putL l S.m) g')
  | [], S, g, h, _, _, _, _ => ⟨g, h, .of_m rfl, (fun p hp => by cases hp), rfl, (fun _ _ => rfl), fun _ h => ⟨h, rfl⟩⟩
  | (k, x) :: l, S, g, h, hl, hnd, nio, hn => by
    simp only [List.map_cons, List.nodup_cons] at hnd
    obtain ⟨g1, h1, h2, h3, h4, h5, h6⟩ := SR.putNil l h (fun p hp => hl p (List.mem_cons_of_mem _ hp)) hnd.2 (nio := nio) fun p hp => hn p (List.mem_cons_of_mem _ hp)
    obtain ⟨hk, T, e, dp, hx⟩ := hl (k, x) (List.mem_cons_self ..)
    have hx : x = .obj T e dp [] := hx
    subst hx
    have hk : S.m k = .none := hk
    have hkn : nio ≤ k := hn (k, _) (List.mem_cons_self ..)
    have hne : ∀ p ∈ l, p.1 ≠ k := fun p hp e => hnd.1 (List.mem_map.2 ⟨p, hp, e⟩)
    have hk1 : (putL l S.m) k = .none := by rw [putL_other hne, hk]
    obtain ⟨h7, h8⟩ := h1.install (More.refl w) (d := k) (M := .obj T e dp []) (G := nilG) hk1 (fun i hi => (nil_blocks hi).elim) fun hx _ => own_nil w _ T dp e
    refine ⟨g1.put k nilG, h7, h2.trans ⟨fun _ h => h, fun i hi => ?_⟩, fun p hp => ?_, h4, fun j hj => ?_, fun i hi => ⟨(h8 i (h6 i hi).1).1, rfl⟩⟩
    · have e1 : i ≠ k := by omega
      exact ⟨fun _ => GM.put_ne g1 _ e1, by show KM (putL l S.m i) (upd (putL l S.m) k _ i); simp only [upd, beq_ne e1, cond_false]; exact .refl _⟩
    · rcases List.mem_cons.1 hp with rfl | hp
      · exact ⟨by simp [putL, upd], GM.put_self ..⟩
      · have e1 := hne p hp
        refine ⟨?_, ?_⟩
        · simp only [putL, upd, beq_ne e1, cond_false]; exact (h3 p hp).1
        · rw [GM.put_ne g1 _ e1]; exact (h3 p hp).2
    · have e1 : j ≠ k := fun e1 => hj (k, _) (List.mem_cons_self ..) e1.symm
      rw [GM.put_ne g1 _ e1]; exact h5 j fun p hp => hj p (List.mem_cons_of_mem _ hp)
/-- A new variable. -/
theorem SR.newBox (h : SR w0 io n S g a w) (d : Nat) (l : List AV) (vs : Array Value) (T : Nat)
    (hl : All2 (R1 w (okOf w (dropM d S.m).m g) (dropM d S.m).m g) l vs.toList) {nio : Nat} (hd : nio ≤ d) :
    ∃ g', SR w0 io n (St.set ⟨(S.act (dropM d S.m)).t, upd (dropM d S.m).m d (.box l)⟩ d (.ptr d 0)) g' (a.put (some d) (.pointer (some ⟨w.heap.size, 0, none⟩))) (w.alloc (.cells vs T)) ∧
      Kept nio S g (St.set ⟨(S.act (dropM d S.m)).t, upd (dropM d S.m).m d (.box l)⟩ d (.ptr d 0)) g' := by
  have h1 := h.drop d
  obtain ⟨h2, hx⟩ := h1.install (d := d) (M := .box l) (G := ⟨w.heap.size, .lf⟩) (More.alloc w (.cells vs T)) (drop_none d S.m) (fun k hk => by simp only [blks, List.mem_singleton] at hk; subst hk; simp) fun hx hf =>
    ⟨vs, T, heap_alloc_new w _, hl.mono fun _ _ => R1.map0 hf⟩
  refine ⟨g.put d ⟨w.heap.size, .lf⟩, SR.put h2 d (.ptr d 0) _ ⟨by rw [GM.put_self], .inl ⟨l, by simp [upd]⟩⟩, fun _ h => h, fun i hi => ?_⟩
  have e1 : i ≠ d := by omega
  refine ⟨fun _ => GM.put_ne g _ e1, ?_⟩
  show KM (S.m i) (upd (dropM d S.m).m d _ i)
  simp only [upd, beq_ne e1, cond_false]
  exact .drop ..
theorem SR.newArr (h : SR w0 io n S g a w) (d : Nat) {e : ET} {k : Nat} {xs : List e.ty} (hk : xs.length = k) (vs : Array Value) (T : Nat)
    (hl : All2 (fun x c => Rd w (okOf w (dropM d S.m).m g) e x [c]) xs vs.toList) {nio : Nat} (hd : nio ≤ d) :
    ∃ g', SR w0 io n (St.set ⟨(S.act (dropM d S.m)).t, upd (dropM d S.m).m d (.arr e k xs)⟩ d (.ptr d 0)) g' (a.put (some d) (.pointer (some ⟨w.heap.size, 0, none⟩))) (w.alloc (.cells vs T)) ∧
      Kept nio S g (St.set ⟨(S.act (dropM d S.m)).t, upd (dropM d S.m).m d (.arr e k xs)⟩ d (.ptr d 0)) g' := by
  have h1 := h.drop d
  obtain ⟨h2, hx⟩ := h1.install (d := d) (M := .arr e k xs) (G := ⟨w.heap.size, .lf⟩) (More.alloc w (.cells vs T)) (drop_none d S.m) (fun k hk => by simp only [blks, List.mem_singleton] at hk; subst hk; simp) fun hx hf =>
    ⟨hk, vs, T, heap_alloc_new w _, hl.mono fun _ _ => Rd.mono hx⟩
  refine ⟨g.put d ⟨w.heap.size, .lf⟩, SR.put h2 d (.ptr d 0) _ ⟨by rw [GM.put_self], .inr ⟨e, k, xs, by simp [upd]⟩⟩, fun _ h => h, fun i hi => ?_⟩
  have e1 : i ≠ d := by omega
  refine ⟨fun _ => GM.put_ne g _ e1, ?_⟩
  show KM (S.m i) (upd (dropM d S.m).m d _ i)
  simp only [upd, beq_ne e1, cond_false]
  exact .drop ..

/-! ### memory written in place -/
/-- One name's memory is written in place: its blocks are the same. -/
theorem SR.stored (h : SR w0 io n S g a w) (id : Nat) (M : ME)
    (hos : w'.os = w.os) (htape : w'.tape = w.tape) (hout : w'.output = w.output) (hsize : w'.heap.size = w.heap.size) (hsame : ∀ k, k ∉ blks (S.m id) (g id) → w'.heap[k]? = w.heap[k]?)
    (hb : blks M (g id) = blks (S.m id) (g id)) (hsim : Sim S.m g (upd S.m id M) g id)
    (hM : Ext w (okOf w S.m g) w' (okOf w' (upd S.m id M) g) → (∀ x v, R0 w (okOf w S.m g) S.m g x v → R0 w' (okOf w' (upd S.m id M) g) (upd S.m id M) g x v) → MR w' (okOf w' (upd S.m id M) g) (upd S.m id M) g M (g id)) :
    SR w0 io n ⟨S.t, upd S.m id M⟩ g a w' := by
  have hmd : (upd S.m id M) id = M := by simp [upd]
  have hmj : ∀ j, j ≠ id → (upd S.m id M) j = S.m j := fun j hj => by simp [upd, beq_ne hj]
  have hbj : ∀ j, blks ((upd S.m id M) j) (g j) = blks (S.m j) (g j) := fun j => by
    by_cases e : j = id
    · subst e; rw [hmd, hb]
    · rw [hmj j e]
  refine (h.step0 (· = id) hos htape hout (by omega) (fun k _ hk => hsame k (hk id rfl)) (fun j k hk => .inl ⟨j, hbj j ▸ hk⟩) (fun j j' k hk hk' => h.disj j j' k (hbj j ▸ hk) (hbj j' ▸ hk')) rfl (fun j _ => ?_) fun hx hf j => ?_).1
  · by_cases e : j = id
    · subst e; exact hsim
    · exact Sim.of_eq (hmj j e) rfl
  · by_cases e : j = id
    · subst e; rw [hmd]; exact hM hx hf
    · rw [hmj j e]; exact MR.map0 hx hf (fun k hk => hsame k fun hk' => e (h.disj j id k hk hk')) (h.mem j)
/-- The slice 'id' has grown, and may lie elsewhere now. -/
theorem SR.grow (h : SR w0 io n S g a w) (id : Nat) {M : ME} {G : GE} (hos : w'.os = w.os) (htape : w'.tape = w.tape) (hout : w'.output = w.output) (hsize : w.heap.size ≤ w'.heap.size)
    (hsame : ∀ k, k < w.heap.size → k ∉ blks (S.m id) (g id) → w'.heap[k]? = w.heap[k]?)
    (hb : ∀ k, k ∈ blks M G → k ∈ blks (S.m id) (g id) ∨ (w.heap.size ≤ k ∧ k < w'.heap.size))
    (hM : Ext w (okOf w S.m g) w' (okOf w' (upd (fun i => liftM (dropF id) (S.m i)) id M) (g.put id G)) → MR w' (okOf w' (upd (fun i => liftM (dropF id) (S.m i)) id M) (g.put id G)) (upd (fun i => liftM (dropF id) (S.m i)) id M) (g.put id G) M G) :
    SR w0 io n ⟨fun i => lift3 (dropF id) (S.t i), upd (fun i => liftM (dropF id) (S.m i)) id M⟩ (g.put id G) a w' := by
  generalize hm' : upd (fun i => liftM (dropF id) (S.m i)) id M = m' at *
  have hmd : m' id = M := by subst hm'; simp [upd]
  have hmj : ∀ j, j ≠ id → m' j = liftM (dropF id) (S.m j) := fun j hj => by subst hm'; simp [upd, beq_ne hj]
  have hbj : ∀ j k, k ∈ blks (m' j) ((g.put id G) j) → k ∈ blks (S.m j) (g j) ∨ (j = id ∧ w.heap.size ≤ k ∧ k < w'.heap.size) := fun j k hk => by
    by_cases e : j = id
    · subst e; rw [hmd, GM.put_self] at hk; exact (hb k hk).imp (fun h => h) fun h => ⟨rfl, h⟩
    · rw [hmj j e, GM.put_ne g _ e, blks_lift] at hk; exact .inl hk
  refine (h.step (· = id) hos htape hout hsize (fun k hk hn => hsame k hk (hn id rfl)) (fun j k hk => (hbj j k hk).imp (fun h => ⟨j, h⟩) And.right) (fun j j' k hk hk' => ?_) rfl fun hx => ⟨fun x v hr => ?_, fun hf j => ?_⟩).1
  · rcases hbj j k hk with h1 | ⟨e1, h1, _⟩ <;> rcases hbj j' k hk' with h2 | ⟨e2, h2, _⟩
    · exact h.disj j j' k h1 h2
    · have := (h.own j k h1).1; omega
    · have := (h.own j' k h2).1; omega
    · rw [e1, e2]
  · unfold dropF
    cases hh : x.has id with
    | true => exact trivial
    | false =>
      have hne : ∀ j, x.id? = some j → j ≠ id := fun j hj e => by rw [e] at hj; rw [has_iff.2 hj] at hh; cases hh
      exact R0.sim hx (fun j hj => Sim.lift (f := dropF id) (hmj j (hne j hj)) (GM.put_ne g _ (hne j hj))) hr
  · by_cases e : j = id
    · subst e; rw [hmd, GM.put_self]; exact hM hx
    · rw [hmj j e, GM.put_ne g _ e]
      exact MR.lift hx hf (fun k hk => hsame k (h.own j k hk).1 fun hk' => e (h.disj j id k hk hk')) (h.mem j)
end
end Go.Proofs.Ytckieogkaodkdaa.V
