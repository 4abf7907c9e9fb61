/- Calls of functions whose meaning is told. -/
import Derived.Test.YtckieogkaodkdaaWf
set_option linter.unusedVariables false
set_option linter.unusedSimpArgs false
namespace Go.Proofs.Ytckieogkaodkdaa.V
open Go Go.RowKit

section
/-- What leaves plain data alone. -/
def Tame (f : AV → AV) : Prop := (∀ e x, f (.d e x) = .d e x) ∧ ∀ T e, f (.nilS T e) = .nilS T e
theorem tame_drop (id : Nat) : Tame (dropF id) := ⟨fun _ _ => rfl, fun _ _ => rfl⟩
theorem tame_freeze (id T : Nat) (e : ET) (xs : List e.ty) : Tame (freezeF id T e xs) := ⟨fun _ _ => rfl, fun _ _ => rfl⟩
theorem tame_still (id : Nat) (l : List AV) : Tame (stillF id l) := ⟨fun _ _ => rfl, fun _ _ => rfl⟩
theorem lift_isD {f : AV → AV} (hf : Tame f) : ∀ {l : List AV}, l.all AV.isD = true → l.map (lift1 f) = l
  | [], _ => rfl
  | y :: l, h => by
    simp only [List.all_cons, Bool.and_eq_true] at h
    rw [List.map_cons, lift_isD hf h.2]
    congr 1
    have h := h.1
    cases y <;> simp only [AV.isD, Bool.false_eq_true] at h
    · exact hf.1 _ _
    · exact hf.2 _ _
theorem lift_lend {f : AV → AV} (hf : Tame f) {x : ME} (h : lendable x = true) : liftM f x = x := by
  cases x with
  | box l => simp only [liftM, lift_isD hf (show l.all AV.isD = true from h)]
  | _ => rfl
theorem goneable_lend {x : ME} (h : goneable x = true) : lendable x = true := by cases x <;> simp only [goneable, Bool.false_eq_true] at h <;> first | exact h | rfl
theorem drop_lend {id j : Nat} {m : Nat → ME} (hj : j ≠ id) (h : lendable (m j) = true) : (dropM id m).m j = m j := by rw [drop_other m hj, lift_lend (tame_drop id) h]
theorem freeze_lend {id j : Nat} {m : Nat → ME} (hj : j ≠ id) (h : lendable (m j) = true) : (freezeM id m).m j = m j := by
  unfold freezeM
  split
  · simp only [upd, beq_ne hj, cond_false]; exact lift_lend (tame_freeze ..) h
  · rfl
theorem still_lend {id j : Nat} {m : Nat → ME} (hj : j ≠ id) (h : lendable (m j) = true) : (stillM id m).m j = m j := by
  unfold stillM
  split
  · rename_i l _
    cases l.all AV.isD
    · rfl
    · simp only [cond_true, upd, beq_ne hj, cond_false]; exact lift_lend (tame_still ..) h
  · rfl
theorem dropIn_lend {l : List Nat} {j : Nat} : ∀ {m : Nat → ME}, j ∉ l → lendable (m j) = true → (dropInM l m).m j = m j := by
  induction l with
  | nil => intro m _ _; rfl
  | cons x l ih =>
    intro m hj h
    have h1 := drop_lend (fun e => hj (e ▸ List.mem_cons_self ..)) h (id := x)
    show (dropInM l (dropM x m).m).m j = m j
    rw [ih (fun e => hj (List.mem_cons_of_mem _ e)) (by rw [h1]; exact h), h1]
theorem freezeIn_lend {l : List Nat} {j : Nat} : ∀ {m : Nat → ME}, j ∉ l → lendable (m j) = true → (freezeInM l m).m j = m j := by
  induction l with
  | nil => intro m _ _; rfl
  | cons x l ih =>
    intro m hj h
    have h1 := freeze_lend (fun e => hj (e ▸ List.mem_cons_self ..)) h (id := x)
    show (freezeInM l (freezeM x m).m).m j = m j
    rw [ih (fun e => hj (List.mem_cons_of_mem _ e)) (by rw [h1]; exact h), h1]
theorem stillIn_lend {l : List Nat} {j : Nat} : ∀ {m : Nat → ME}, j ∉ l → lendable (m j) = true → (stillInM l m).m j = m j := by
  induction l with
  | nil => intro m _ _; rfl
  | cons x l ih =>
    intro m hj h
    have h1 := still_lend (fun e => hj (e ▸ List.mem_cons_self ..)) h (id := x)
    show (stillInM l (stillM x m).m).m j = m j
    rw [ih (fun e => hj (List.mem_cons_of_mem _ e)) (by rw [h1]; exact h), h1]
theorem none_drop {id j : Nat} {m : Nat → ME} (h : m j = .none) : (dropM id m).m j = .none := by
  by_cases e : j = id
  · subst e; exact drop_none _ _
  · rw [drop_other m e, h]; rfl
theorem none_freeze {id j : Nat} {m : Nat → ME} (h : m j = .none) : (freezeM id m).m j = .none := by
  unfold freezeM
  split
  · by_cases e : j = id
    · subst e; simp [upd]
    · simp only [upd, beq_ne e, cond_false, h]; rfl
  · exact h
theorem none_still {id j : Nat} {m : Nat → ME} (h : m j = .none) : (stillM id m).m j = .none := by
  unfold stillM
  split
  · rename_i l _
    cases l.all AV.isD
    · exact h
    · by_cases e : j = id
      · subst e; simp [upd]
      · simp only [cond_true, upd, beq_ne e, cond_false, h]; rfl
  · exact h
theorem none_freezeIn {l : List Nat} {j : Nat} : ∀ {m : Nat → ME}, m j = .none → (freezeInM l m).m j = .none := by
  induction l with
  | nil => intro m h; exact h
  | cons x l ih => intro m h; exact ih (none_freeze h)
theorem none_stillIn {l : List Nat} {j : Nat} : ∀ {m : Nat → ME}, m j = .none → (stillInM l m).m j = .none := by
  induction l with
  | nil => intro m h; exact h
  | cons x l ih => intro m h; exact ih (none_still h)
/-- What is lent as plain data is written no more. -/
theorem freezeIn_gone {l : List Nat} {j : Nat} : ∀ {m : Nat → ME}, j ∈ l → goneable (m j) = true → (freezeInM l m).m j = .none ∨ ((freezeInM l m).m j = m j ∧ ∃ c, m j = .box c) := by
  induction l with
  | nil => intro m h; cases h
  | cons x l ih =>
    intro m hj h
    show (freezeInM l (freezeM x m).m).m j = .none ∨ ((freezeInM l (freezeM x m).m).m j = m j ∧ _)
    by_cases e : j = x
    · subst e
      cases hm : m j with
      | obj T e dp xs =>
        refine .inl (none_freezeIn ?_)
        unfold freezeM
        rw [hm]
        simp [upd]
      | box c =>
        have h1 : (freezeM j m).m j = m j := by unfold freezeM; rw [hm]; exact hm
        by_cases hin : j ∈ l
        · rcases ih (m := (freezeM j m).m) hin (by rw [h1]; exact h) with h2 | ⟨h2, h3⟩
          · exact .inl h2
          · exact .inr ⟨by rw [h2, h1, hm], c, rfl⟩
        · exact .inr ⟨by rw [freezeIn_lend hin (by rw [h1]; exact goneable_lend h), h1, hm], c, rfl⟩
      | none => rw [hm] at h; cases h
      | arr _ _ _ => rw [hm] at h; cases h
    · have h1 := freeze_lend e (goneable_lend h) (id := x)
      have := ih (m := (freezeM x m).m) ((List.mem_cons.1 hj).resolve_left e) (by rw [h1]; exact h)
      rwa [h1] at this
theorem stillIn_gone {l : List Nat} {j : Nat} : ∀ {m : Nat → ME}, j ∈ l → ∀ {c}, m j = .box c → c.all AV.isD = true → (stillInM l m).m j = .none := by
  induction l with
  | nil => intro m h; cases h
  | cons x l ih =>
    intro m hj c hm hc
    show (stillInM l (stillM x m).m).m j = .none
    by_cases e : j = x
    · subst e
      refine none_stillIn ?_
      unfold stillM
      rw [hm]
      simp only [hc, cond_true, upd, beq_self]
    · have h1 := still_lend e (by rw [hm]; exact hc) (id := x) (m := m)
      exact ih ((List.mem_cons.1 hj).resolve_left e) (h1.trans hm) hc
theorem gone_all {m : Nat → ME} {l : List Nat} {j : Nat} (hj : j ∈ l) (hl : goneable (m j) = true) : ((freezeInM l m).next (stillInM l)).m j = .none := by
  show (stillInM l (freezeInM l m).m).m j = .none
  rcases freezeIn_gone hj hl with h | ⟨h, c, hc⟩
  · exact none_stillIn h
  · rw [hc] at h hl
    exact stillIn_gone hj h hl
theorem KM.blks {x y : ME} (h : KM x y) {e : GE} {k : Nat} (hk : k ∈ blks y e) : k ∈ blks x e := by
  rcases h with rfl | h
  · cases hk
  · cases x with
    | none => exact h.elim
    | box l => obtain ⟨l', rfl⟩ := h; exact hk
    | arr e n xs => obtain ⟨l', rfl⟩ := h; exact hk
    | obj T e dp xs => obtain ⟨l', rfl⟩ := h; exact hk
theorem KM.freezeIn (l : List Nat) (i : Nat) : ∀ (m : Nat → ME), KM (m i) ((freezeInM l m).m i) := by
  induction l with
  | nil => intro m; exact .refl _
  | cons x l ih => intro m; exact (KM.freeze x i m).trans (ih _)
theorem KM.stillIn (l : List Nat) (i : Nat) : ∀ (m : Nat → ME), KM (m i) ((stillInM l m).m i) := by
  induction l with
  | nil => intro m; exact .refl _
  | cons x l ih => intro m; exact (KM.still x i m).trans (ih _)
theorem KM.dropIn (l : List Nat) (i : Nat) : ∀ (m : Nat → ME), KM (m i) ((dropInM l m).m i) := by
  induction l with
  | nil => intro m; exact .refl _
  | cons x l ih => intro m; exact (KM.drop x i m).trans (ih _)
theorem KM.lent (fl : Bool) (l : List Nat) (i : Nat) (m : Nat → ME) : KM (m i) ((lentM fl l m).m i) := by
  cases fl
  · exact (KM.freezeIn l i m).trans (.stillIn l i _)
  · exact .refl _
theorem namesOf_inj {d : Nat} : ∀ {l : List Nat} {j : Nat}, l.Nodup → ∀ {k c c' : Nat}, (k, c) ∈ namesOf d j l → (k, c') ∈ namesOf d j l → c = c'
  | [], _, _, _, _, _, h, _ => by cases h
  | x :: l, j, hn, k, c, c', h, h' => by
    simp only [List.nodup_cons] at hn
    simp only [namesOf] at h h'
    rcases List.mem_cons.1 h with e | e <;> rcases List.mem_cons.1 h' with e' | e'
    · injection e with h1 h2; injection e' with h3 h4; rw [h2, h4]
    · injection e with h1 h2; subst h1; exact absurd (namesOf_mem e').1 hn.1
    · injection e' with h1 h2; subst h1; exact absurd (namesOf_mem e).1 hn.1
    · exact namesOf_inj hn.2 e e'
end

section
variable {P : Program} {E : Env} {ρ : Type} {w0 : World} {io0 : Nat → Prop} {S : St} {g : GM} {a : Act} {w w' : World} {r0 : ρ}
theorem SR.lent {n : Nat} (h : SR w0 io0 n S g a w) (fl : Bool) (pl : List Nat) : SR w0 io0 n (S.act (lentM fl pl S.m)) g a w := by
  cases fl
  · show SR w0 io0 n (S.act ((freezeInM pl S.m).next (stillInM pl))) g a w
    rw [act_next]; exact (h.freezeIn pl).stillIn pl
  · exact h
theorem Kept.lent {nio : Nat} (S : St) (g : GM) (fl : Bool) (pl : List Nat) : Kept nio S g (S.act (lentM fl pl S.m)) g := by
  cases fl
  · show Kept nio S g (S.act ((freezeInM pl S.m).next (stillInM pl))) g
    rw [act_next]; exact (Kept.freezeIn S g pl).trans (Kept.stillIn _ g pl)
  · exact .refl _ _
theorem act_put_act (S : St) (A : Mo) (m3 : Nat → ME) (d : Nat) (x : AV) (C : Mo) : (⟨fun i => A.f (S.t i), m3⟩ : St).set d x = ⟨upd (fun i => A.f (S.t i)) d x, m3⟩ := rfl
theorem set_act (S : St) (d : Nat) (x : AV) (C : Mo) : (S.set d x).act C = (S.act C).set d (C.f x) := by
  unfold St.set St.act
  simp only
  congr 1
  funext i
  simp only [upd]
  cases Nat.beq i d <;> rfl
theorem callB_ok {mu : List Nat} {args : List AV} {dst : Option Nat} {news : List Nat} {x : AV} {r : Nat → ME} {v : Value} {κ : Eff → Option ρ} (h : SR w0 io0 E.ntmps S g a w)
    (hok : lendOK S.m (ioL mu 0 args) (plainL mu 0 args) = true) (hq : ∀ i id q, (i, id, q) ∈ ioL mu 0 args → q ≠ [] → (∃ v n kids, (g id).tr.get q = some (.nd v n kids)) ∧ ∃ T e dp xs, S.m id = .obj T e dp xs)
    (hp : Post (lendM S.m (ioL mu 0 args)) (lentG S g (ioL mu 0 args) (plainL mu 0 args)) w news x r v w')
    (hk : callB E S.m dst (ioL mu 0 args) (plainL mu 0 args) news x r κ = some r0) :
    ∃ F g', κ F = some r0 ∧ SR w0 io0 E.ntmps (S.app dst F) g' (a.put dst v) w' ∧ Kept E.nio S g (S.app dst F) g' := by
  simp only [lendOK, Bool.and_eq_true, List.all_eq_true, Bool.not_eq_true'] at hok
  obtain ⟨⟨hdist, hlend⟩, hpl⟩ := hok
  have hlook : ∀ i p, (i, p) ∈ ioL mu 0 args → lookI (ioL mu 0 args) i = some p := fun i p hi => io_look hi
  generalize ioL mu 0 args = L at *
  generalize plainL mu 0 args = pl at *
  unfold callB at hk
  simp only at hk
  rcases cond_some hk with ⟨hb, hk⟩ | ⟨_, hk⟩
  rotate_left
  · cases hk
  simp only [Bool.and_eq_true, Bool.or_eq_true] at hb
  obtain ⟨hfl, hnod⟩ := hb
  have hnod := nodup_of hnod
  generalize hflag : flatC r x L news = fl at *
  have h1 := h.lent fl pl
  have hk1 := Kept.lent (nio := E.nio) S g fl pl
  have hjp : ∀ p ∈ L, p.2.1 ∉ pl := fun p hp2 hjp => by
    have := hpl _ hjp
    rw [knowsId_iff.2 ⟨p.1, p.2.2, hp2⟩] at this; cases this
  have hS1 : ∀ p ∈ L, (lentM fl pl S.m).m p.2.1 = S.m p.2.1 := fun p hp2 => by
    cases fl
    · have hl := (hlend p hp2).1
      have h2 := freezeIn_lend (hjp p hp2) hl
      show (stillInM pl (freezeInM pl S.m).m).m p.2.1 = S.m p.2.1
      rw [stillIn_lend (hjp p hp2) (by rw [h2]; exact hl), h2]
    · rfl
  have hsub1 : ∀ id k, k ∈ blks ((lentM fl pl S.m).m id) (g id) → k ∈ blks (S.m id) (g id) := fun id k hk => (KM.lent fl pl id S.m).blks hk
  have hfl1 : fl = true ∨ ∀ id ∈ pl, (lentM fl pl S.m).m id = .none := by
    cases fl
    · refine .inr fun id hid => ?_
      rcases hfl with hfl | hfl
      · cases hfl
      · exact gone_all hid (List.all_eq_true.1 hfl id hid)
    · exact .inl rfl
  generalize hA : lentM fl pl S.m = A at *
  cases dst with
  | none =>
    obtain ⟨g2, h2, h3, _⟩ := call_back (nio := E.nio) (ns := []) h hdist hlend hpl hlook hq hp h1 hS1 hsub1 (by rw [hflag]; exact hfl1) (fun k c hkc => by cases hkc) List.nodup_nil (fun k c c' hkc => by cases hkc) (fun k c hkc => by cases hkc)
    exact ⟨_, g2, hk, h2, hk1.trans h3⟩
  | some d =>
    simp only at hk
    rcases cond_some hk with ⟨hb, hk⟩ | ⟨_, hk⟩
    rotate_left
    · cases hk
    simp only [Bool.and_eq_true, List.all_eq_true, Bool.not_eq_true'] at hb
    obtain ⟨hd, hnio⟩ := hb
    have hd := Nat.le_of_ble_eq_true hd
    generalize hns : namesOf d 0 news = ns at *
    generalize hnn : (ns.map fun p => p.2) = nn at *
    have hin : ∀ k c, (k, c) ∈ ns → c ∈ nn := fun k c hkc => by rw [← hnn]; exact List.mem_map.2 ⟨(k, c), hkc, rfl⟩
    have hioN : ∀ p ∈ L, p.2.1 ∉ nn := fun p hp2 hc => by
      have := hnio p hp2
      rw [List.any_eq_true.2 ⟨p.2.1, hc, beq_self _⟩] at this; cases this
    have h2 := h1.dropIn nn
    have hS2 : ∀ p ∈ L, (dropInM nn A.m).m p.2.1 = S.m p.2.1 := fun p hp2 => by
      have e := hS1 p hp2
      rw [dropIn_lend (hioN p hp2) (by rw [e]; exact (hlend p hp2).1), e]
    obtain ⟨g2, h3, h4, h5⟩ := call_back (nio := E.nio) (ns := ns) h hdist hlend hpl hlook hq hp h2 hS2 (fun id k hk => hsub1 id k ((KM.dropIn nn id A.m).blks hk)) (by
        rw [hflag]
        exact hfl1.imp id fun h id hid => dropIn_keep (h id hid)) (fun k c hkc => by
        have hkc' : (k, c) ∈ namesOf d 0 news := by rw [hns]; exact hkc
        refine ⟨(namesOf_mem hkc').1, dropIn_none (hin k c hkc), ?_⟩
        cases hkn : knowsId L c with
        | false => rfl
        | true =>
          obtain ⟨i, q, hm⟩ := knowsId_iff.1 hkn
          exact absurd (hin k c hkc) (hioN _ hm)) (by rw [← hns]; exact namesOf_nodup) (fun k c c' h1 h2 => by rw [← hns] at h1 h2; exact namesOf_inj hnod h1 h2) (fun k c hkc => by
        rw [← hns] at hkc
        obtain ⟨_, i, _, rfl⟩ := namesOf_mem hkc
        unfold nameOf; omega)
    have h6 := h3.put d _ v h5
    have hkp := (hk1.trans (Kept.dropIn (S.act A) g nn)).trans h4
    cases ho : E.objs d with
    | some dp =>
      rw [ho] at hk
      exact ⟨_, g2, hk, h6, hkp.trans (.of_m rfl)⟩
    | none =>
      rw [ho] at hk
      refine ⟨_, g2, hk, ?_, ?_⟩
      · have h7 := h6.freezeIn nn
        rw [set_act] at h7
        exact h7
      · have h8 : Kept E.nio S g (St.set ⟨((S.act A).act (dropInM nn (S.act A).m)).t, putN r ns (back ((S.act A).act (dropInM nn (S.act A).m)).m r L)⟩ d (lift3 (renN ns) x)) g2 := hkp.trans (.of_m rfl)
        have h7 := h8.trans (Kept.freezeIn _ g2 nn)
        rw [set_act] at h7
        exact h7
/-- A call of a function whose meaning is told. -/
theorem callK_ok (hc : ∀ f, CallOK P f (E.calls f)) {dst : Option Nat} {f : Nat} {args : List AV} {vals : Array Value} {κ : Eff → Option ρ} (h : SR w0 io0 E.ntmps S g a w) (hargs : All2 (R3 w (okOf w S.m g) S.m g) args vals.toList)
    (hk : callK E S.m dst f args κ = some r0) :
    CallsTo P f vals w fun v w' => ∃ F g', κ F = some r0 ∧ SR w0 io0 E.ntmps (S.app dst F) g' (a.put dst v) w' ∧ Kept E.nio S g (S.app dst F) g' := by
  unfold callK at hk
  simp only at hk
  rcases cond_some hk with ⟨hok, hk⟩ | ⟨_, hk⟩
  rotate_left
  · cases hk
  split at hk
  rotate_left
  · cases hk
  rename_i c hcs
  obtain ⟨y, hy, hk⟩ := Option.bind_eq_some_iff.1 hk
  obtain ⟨hpre, hq⟩ := lend_pre h (E.muts f) hargs hok
  have hcall := hc f _ _ c y hcs hy _ _ _ hpre
  intro o a' K Q hK
  exact hcall o a' K Q fun v w' hp => hK v w' (callB_ok h hok hq hp hk)
/-- A call that is handed nothing to change. -/
theorem callV_ok (hc : ∀ f, CallOK P f (E.calls f)) {f : Nat} {args : List AV} {vals : Array Value} {κ : AV → Option ρ} (h : SR w0 io0 E.ntmps S g a w) (hargs : All2 (R3 w (okOf w S.m g) S.m g) args vals.toList)
    (hk : callV E S.m f args κ = some r0) :
    CallsTo P f vals w fun v w' => ∃ x, κ x = some r0 ∧ More w w' ∧ R3 w' (okOf w' S.m g) S.m g x v := by
  unfold callV at hk
  simp only at hk
  rcases cond_some hk with ⟨hio, hk⟩ | ⟨_, hk⟩
  rotate_left
  · cases hk
  split at hk
  rotate_left
  · cases hk
  rename_i c hcs
  obtain ⟨y, hy, hk⟩ := Option.bind_eq_some_iff.1 hk
  have hL : ioL (E.muts f) 0 args = [] := by simpa using hio
  have hok : lendOK S.m (ioL (E.muts f) 0 args) (plainL (E.muts f) 0 args) = true := by rw [hL]; simp [lendOK, distinct, knowsId]
  obtain ⟨hpre, _⟩ := lend_pre h (E.muts f) hargs hok
  rw [hL] at hpre
  have hcall := hc f _ _ c y hcs hy _ _ _ hpre
  intro o a' K Q hK
  refine hcall o a' K Q fun v w' hp => hK v w' ?_
  generalize plainL (E.muts f) 0 args = pl at *
  generalize (c.enc y).1 = x at *
  generalize (c.enc y).2 = r at *
  have hmore : More w w' := ⟨hp.os, hp.tape, hp.output, hp.size, fun k hk => hp.same k hk fun i hi => by cases hi⟩
  rcases cond_some hk with ⟨hf, hk⟩ | ⟨_, hk⟩
  rotate_left
  · cases hk
  refine ⟨_, hk, hmore, ?_⟩
  obtain ⟨g', hgx, hkeep, hnew, hrest, hdisj', hmem', hres⟩ := hp.ex
  -- every name that has come is new
  have hfresh : ∀ i k, k ∈ blks (r i) (g' i) → w.heap.size ≤ k ∧ k < w'.heap.size := fun i k hk => by
    by_cases hi : i ∈ c.news
    · exact (hnew i hi).2.2 k hk
    · rw [hrest i rfl hi] at hk; cases hk
  have hokr : ∀ i k, k ∈ blks (r i) (g' i) → okOf w' S.m g k := fun i k hk => by
    obtain ⟨h1, h2⟩ := hfresh i k hk
    exact ⟨h2, fun he => by have := h.ex k he; omega, fun j hj => by have := (h.own j k hj).1; omega⟩
  have hx : pl = [] → Ext w' (okOf w' r g') w' (okOf w' S.m g) := fun hpl k hk => ⟨⟨hk.1, fun he => hk.2.1 (by rw [hgx]; exact .inl he), fun j hj => hk.2.1 (by rw [hgx]; exact .inr ⟨⟨j, by rw [hpl]; simp, hj⟩, fun p hp => by cases hp⟩)⟩, rfl⟩
  have ref : ∀ i q u, (pl = [] ∨ (r i).flat = true ∨ r i = .none) → R0 w' (okOf w' r g') r g' (.ref i q) u → R0 w' (okOf w' S.m g) S.m g (plainF r (.ref i q)) u := by
    rintro i q u hfl ⟨⟨T, e, dp, xs, h1⟩, n', kids, h2⟩
    cases q with
    | cons _ _ => trivial
    | nil =>
      simp only [plainF, h1]
      have hM := hmem' i
      rw [h1] at hM hfl
      simp only [Tr.get, Option.some.injEq] at h2
      have hM : Own w' (okOf w' r g') (dp + 1) (.sl T e) xs (g' i).tr (g' i).tr.v := hM
      rw [h2] at hM
      have hb : ∀ k ∈ (Tr.nd u n' kids).blocks, okOf w' S.m g k := fun k hk => hokr i k (by rw [h1]; show k ∈ (g' i).tr.blocks; rw [h2]; exact hk)
      rcases hfl with hfl | hfl | hfl
      · exact Own.toRd (fun k hk => (hx hfl k hk).1) hb hM
      · exact Own.toRd (fun k hk => hk) hb (Own.flatD (d := dp + 1) (e := .sl T e) (ok' := okOf w' S.m g) hfl (fun _ _ => rfl) hM)
      · cases hfl
  simp only [Bool.or_eq_true, Bool.and_eq_true, List.all_eq_true] at hf
  rcases hf with hf | hf
  · have hpl : pl = [] := by simpa using hf
    have hx := hx hpl
    refine R3.lift (fun y u hu => ?_) hres
    cases y with
    | ref i q => exact ref i q u (.inl hpl) hu
    | ptr k off => trivial
    | eptr k q i => trivial
    | d e x => exact Rd.mono hx hu
    | arr e n x => obtain ⟨vs, h1, h2, h3⟩ := hu; exact ⟨vs, h1, h2, h3.mono fun _ _ => Rd.mono hx⟩
    | iptr l => exact R0.sim (x := .iptr l) (m' := S.m) (g' := g) hx (fun j hj => by simp [AV.id?] at hj) hu
    | nilS T e => exact hu
    | nilI => exact hu
    | skip => exact hu
    | undef => trivial
    | agg l => exact hu.elim
    | tup l => exact hu.elim
    | fn f l => exact hu.elim
  · refine R3.liftF (fun y u hy hu => ?_) hf.1 hres
    cases y <;> simp only [AV.flat0, Bool.false_eq_true] at hy
    · exact Rd.flat hy hu
    · obtain ⟨vs, h1, h2, h3⟩ := hu; exact ⟨vs, h1, h2, h3.mono fun _ _ => Rd.flat hy⟩
    · rename_i i q
      refine ref i q u (.inr ?_) hu
      by_cases hi : i ∈ c.news
      · exact .inl (hf.2 i hi)
      · exact .inr (hrest i rfl hi)
    · exact hu
    · exact hu
end
end Go.Proofs.Ytckieogkaodkdaa.V
