/- A region whose order is left open: whatever the order, it comes to the same. -/
import Derived.Test.YtckieogkaodkdaaWo
set_option linter.unusedVariables false
set_option linter.unusedSimpArgs false
namespace Go.Proofs.Ytckieogkaodkdaa.V
open Go Go.RowKit

section
variable {P : Program} {E : Env} {w0 : World} {io : Nat → Prop} {S S0 : St} {g : GM} {a : Act} {w : World} {ops : List Oper} {pre : List Nat} {rs : List Rec}
structure Draw (E : Env) (ops : List Oper) (pre : List Nat) (S0 : St) (rs : List Rec) : Prop where
  goes : Goes E ops pre S0 [] [] rs
  nd : (rs.map (·.i)).Nodup
  all : ∀ i, i < ops.length → ∃ r ∈ rs, r.i = i
  ord : orderOK pre (rs.map (·.i)) 0 = true
  fore : pre = forerun ops []
  pairs : pairsOK ops pre = true
theorem Draw.told (D : Draw E ops pre S0 rs) {r : Rec} (hr : r ∈ rs) : ops[r.i]? = some r.o := by
  obtain ⟨l1, l2, rfl⟩ := List.append_of_mem hr
  exact (Goes.at D.goes).1.1
theorem Draw.before (D : Draw E ops pre S0 rs) {l1 l2 : List Rec} {r : Rec} (h : rs = l1 ++ r :: l2) {j : Nat} (hj : hasBit (pre.getD r.i 0) j = true) : ∃ q ∈ l1, q.i = j := by
  have ho := D.ord
  rw [h, List.map_append, List.map_cons] at ho
  rcases order_at ho j hj with h1 | h1
  · simp [hasBit] at h1
  · exact List.mem_map.1 h1
theorem Draw.uniq (D : Draw E ops pre S0 rs) {l1 l2 : List Rec} {r : Rec} (h : rs = l1 ++ r :: l2) : (∀ q ∈ l1, q.i ≠ r.i) ∧ (∀ q ∈ l2, q.i ≠ r.i) ∧ ∀ q ∈ l1, ∀ p ∈ l2, q.i ≠ p.i := by
  have hn := D.nd
  rw [h, List.map_append, List.map_cons, List.nodup_append] at hn
  obtain ⟨_, h2, h3⟩ := hn
  rw [List.nodup_cons] at h2
  refine ⟨fun q hq e => h3 _ (List.mem_map.2 ⟨q, hq, rfl⟩) _ (List.mem_cons_self ..) e, fun q hq e => h2.1 (List.mem_map.2 ⟨q, hq, e⟩), fun q hq p hp e => h3 _ (List.mem_map.2 ⟨q, hq, rfl⟩) _ (List.mem_cons_of_mem _ (List.mem_map.2 ⟨p, hp, rfl⟩)) e⟩
theorem sel_append (L : Nat → Bool) (l l' : List Rec) : sel L (l ++ l') = sel L l ++ sel L l' := List.filter_append ..
theorem sel_cons (L : Nat → Bool) (r : Rec) (l : List Rec) : sel L (r :: l) = if L r.i then r :: sel L l else sel L l := List.filter_cons ..
theorem sel_same {L L' : Nat → Bool} {l : List Rec} (h : ∀ q ∈ l, L' q.i = L q.i) : sel L' l = sel L l := List.filter_congr h
/-- One more. -/
theorem next_ok (D : Draw E ops pre S0 rs) {L L' : Nat → Bool} (hL : ∀ i o, ops[i]? = some o → L i = true → ∀ e ∈ edges o, L e = true) {i : Nat} {o : Oper} (ho : ops[i]? = some o) (hn : L i = false) (he : ∀ e ∈ edges o, L e = true)
    (hi' : L' i = true) (hL' : ∀ j, j ≠ i → L' j = L j) (hcap : ∀ f g caps, (appL S0 (sel L rs)).ev E 0 f = .fn g caps → caps.all AV.isCap = true) :
    (∃ x, Fact E ops (appL S0 (sel L rs)) o x ∧ appL S0 (sel L' rs) = setDst (appL S0 (sel L rs)) o.dst x) ∨ ∃ F, EFact E ops (appL S0 (sel L rs)) o F ∧ appL S0 (sel L' rs) = appE (appL S0 (sel L rs)) o F := by
  obtain ⟨r, hr, hri⟩ := D.all i (List.getElem?_eq_some_iff.1 ho).1
  subst hri
  obtain ⟨l1, l2, hrs⟩ := List.append_of_mem hr
  have hro : r.o = o := by have := D.told hr; rw [ho] at this; injection this with this; exact this.symm
  subst hro
  obtain ⟨hlt, hpair⟩ := pairs_get D.pairs
  have hcl0 : ∀ (j : Nat) (oj : Oper), ops[j]? = some oj → (∀ e ∈ edges oj, L e = true) → ∀ t, hasBit (pre.getD j 0) t = true → L t = true := by
    rw [D.fore]; exact pre_closed (L := fun j => L j = true) hlt hL
  have hcl : ∀ t, hasBit (pre.getD r.i 0) t = true → L t = true := hcl0 r.i r.o ho he
  have hcle : ∀ e ∈ rs, L e.i = true → ∀ t, hasBit (pre.getD e.i 0) t = true → L t = true := fun e her hLe => hcl0 e.i e.o (D.told her) (hL e.i e.o (D.told her) hLe)
  obtain ⟨u1, u2, u3⟩ := D.uniq hrs
  have hat := Goes.at (hrs ▸ D.goes)
  have hin1 : ∀ q ∈ l1, q ∈ rs := fun q hq => by rw [hrs]; exact List.mem_append_left _ hq
  have hin2 : ∀ q ∈ l2, q ∈ rs := fun q hq => by rw [hrs]; exact List.mem_append_right _ (List.mem_cons_of_mem _ hq)
  -- what is left out
  have hmiss : ∀ q ∈ l1, L q.i = false → (∃ x, q.k = .inl x) ∧ ∀ d, q.o.dst = some d → ¬ d ∈ tmpsOf ops r.o := fun q hq hLq => by
    have hno : hasBit (pre.getD r.i 0) q.i ≠ true := fun h => by rw [hcl _ h] at hLq; cases hLq
    refine ⟨?_, fun d hd ht => ?_⟩
    · cases hk : q.k with
      | inl x => exact ⟨x, rfl⟩
      | inr F => exact absurd (hat.2.2.1 q hq F hk) hno
    · rcases (pair_get (hpair q.i r.i q.o r.o (D.told (hin1 q hq)) ho (u1 q hq)) hd).2 ht with h | h
      · exact hno h
      · obtain ⟨l11, l12, e⟩ := List.append_of_mem hq
        obtain ⟨p, hp, hpi⟩ := D.before (l1 := l11) (l2 := l12 ++ r :: l2) (r := q) (by rw [hrs, e]; simp) h
        exact u1 p (by rw [e]; exact List.mem_append_left _ hp) hpi
  -- what came ahead
  have hex : ∀ e ∈ l2, L e.i = true → hasBit (pre.getD e.i 0) r.i ≠ true := fun e hel hLe h => by
    rw [hcle e (hin2 e hel) hLe _ h] at hn; cases hn
  have hexd : ∀ e ∈ l2, L e.i = true → (∀ d, e.o.dst = some d → ¬ d ∈ tmpsOf ops r.o) ∧ ∀ k, r.o.dst = some k → e.o.dst ≠ some k := fun e hel hLe => by
    have hte := D.told (hin2 e hel)
    refine ⟨fun d hd ht => ?_, fun k hk => (pair_get (hpair r.i e.i r.o e.o ho hte (Ne.symm (u2 e hel))) hk).1⟩
    rcases (pair_get (hpair e.i r.i e.o r.o hte ho (u2 e hel)) hd).2 ht with h | h
    · obtain ⟨p, hp, hpi⟩ := D.before hrs h
      exact u3 p hp e hel hpi
    · exact hex e hel hLe h
  have hate : ∀ {l2a l2b : List Rec} {e : Rec}, l2 = l2a ++ e :: l2b → Goes E ops pre S0 [] [] ((l1 ++ r :: l2a) ++ e :: l2b) := fun {l2a l2b e} h => by
    have := D.goes
    rw [hrs, h] at this
    simpa using this
  have hA : sel L rs = sel L l1 ++ sel L l2 := by rw [hrs, sel_append, sel_cons, hn]; rfl
  have hA' : sel L' rs = sel L l1 ++ r :: sel L l2 := by
    rw [hrs, sel_append, sel_cons, hi', sel_same fun q hq => hL' _ (u1 q hq), sel_same fun q hq => hL' _ (u2 q hq)]; rfl
  obtain ⟨m1, m2⟩ := missing_ok (T := (· ∈ tmpsOf ops r.o)) (L := L) (l := l1) (S := S0) (S' := S0) hmiss rfl fun _ _ => rfl
  rw [hA] at hcap ⊢
  rw [hA', appL_append, appL_append]
  rw [appL_append] at hcap
  generalize hB : appL S0 (sel L l1) = B at *
  cases hk : r.k with
  | inr F =>
    have hnil : sel L l2 = [] := by
      refine List.filter_eq_nil_iff.2 fun e hel hLe => ?_
      obtain ⟨l2a, l2b, hsp⟩ := List.append_of_mem hel
      exact hex e hel hLe ((Goes.at (hate hsp)).2.2.1 r (List.mem_append_right _ (List.mem_cons_self ..)) F hk)
    refine .inr ⟨F, ?_, ?_⟩
    · rw [hnil]
      have ht := hat.1.2
      rw [hk] at ht
      exact EFact.congr ht m1 m2
    · rw [hnil]
      show appR B r = appE B r.o F
      unfold appR
      rw [hk]
  | inl x =>
    have key : ∀ n1 e n2, sel L l2 = n1 ++ e :: n2 → (∀ d, e.o.dst = some d → ¬ d ∈ tmpsOf ops r.o) ∧ (∀ k, r.o.dst = some k → e.o.dst ≠ some k) ∧ ∀ F, e.k = .inr (some F) → F.M.f x = x ∧ ∀ t, t ∈ tmpsOf ops r.o → F.M.f ((appL S0 l1).t t) = (appL S0 l1).t t ∧
        (looks r.o.op = true → (∀ id ∈ idsOf3 ((appL S0 l1).t t), (appL B n1).m id = (appL S0 l1).m id) → ∀ id ∈ idsOf3 ((appL S0 l1).t t), F.M.m id = (appL S0 l1).m id) := by
      intro n1 e n2 hsel
      obtain ⟨p1, p2, hp, hp1, hp2⟩ := List.filter_eq_append_iff.1 hsel
      obtain ⟨q1, q2, hq, hq1, hLe, _⟩ := List.filter_eq_cons_iff.1 hp2
      have hsp : l2 = (p1 ++ q1) ++ e :: q2 := by rw [hp, hq]; simp
      have hel : e ∈ l2 := by rw [hsp]; simp
      have hLe : L e.i = true := hLe
      refine ⟨(hexd e hel hLe).1, (hexd e hel hLe).2, fun F hF => ?_⟩
      have hg := hate hsp
      obtain ⟨t1, _, t3, t4⟩ := Goes.at hg
      have hm : (appL B n1).m = (appL S0 (l1 ++ r :: (p1 ++ q1))).m := by
        have := (missing_ok (T := fun _ => False) (L := L) (l := l1 ++ r :: (p1 ++ q1)) (S := S0) (S' := S0) (fun q hq hLq => ⟨?_, fun _ _ => fun h => h⟩) rfl fun _ _ => rfl).1
        · rw [← this, sel_append, sel_cons, hn, appL_append, hB]
          simp only [Bool.false_eq_true, if_false]
          rw [sel_append]
          have e1 : sel L p1 = n1 := hp1
          have e2 : sel L q1 = [] := List.filter_eq_nil_iff.2 hq1
          rw [e1, e2, List.append_nil]
        · cases hqk : q.k with
          | inl y => exact ⟨y, rfl⟩
          | inr G =>
            have := hcle e (hin2 e hel) hLe _ (t3 q hq G hqk)
            rw [this] at hLq; cases hLq
      have htold := t1.2
      rw [hF] at htold
      have heff : effK E ((appL S0 (l1 ++ r :: (p1 ++ q1))).ev E) (appL S0 (l1 ++ r :: (p1 ++ q1))).m e.o some = some F := by
        obtain ⟨_, _, h3⟩ := htold
        split at h3
        · obtain ⟨F', e1, h3⟩ := h3; injection e1 with e1; subst e1; exact h3
        · obtain ⟨t, _, ⟨b, _, ⟨_, F', e1, h3⟩ | ⟨_, e1⟩⟩ | ⟨_, e1⟩⟩ := h3
          · injection e1 with e1; subst e1; exact h3
          · cases e1
          · cases e1
      have hgood := eff_good heff
      have hstill := fun hs => eff_still (o := e.o) hs heff
      rcases (t4 _ hF).2 l1 r (p1 ++ q1) x rfl hk with h | h
      · exact absurd h (hex e hel hLe)
      · generalize stillOp E ((appL S0 (l1 ++ r :: (p1 ++ q1))).ev E) (appL S0 (l1 ++ r :: (p1 ++ q1))).m e.o = st at h hstill
        simp only [Seen.clear, idsE, Bool.and_eq_true, List.all_eq_true] at h
        obtain ⟨h1, h2⟩ := h
        have hf : ∀ y, (st || clear3 F.M.ids y) = true → F.M.f y = y := fun y hy => by
          cases st with
          | true => exact (hstill rfl).1 y
          | false => exact hgood.1 y hy
        refine ⟨hf x h1, fun t ht => ⟨hf _ (h2 t ht).1, fun hlk hB id hid => ?_⟩⟩
        have h3 := (h2 t ht).2
        rw [hlk] at h3
        simp only [Bool.not_true, Bool.false_or, List.all_eq_true, Bool.and_eq_true, Bool.not_eq_true'] at h3
        obtain ⟨h4, h5⟩ := h3 id hid
        have hni : id ∉ F.M.ids := fun hm => by rw [List.any_eq_true.2 ⟨id, hm, beq_self id⟩] at h4; cases h4
        rw [← hB id hid, hm]
        cases st with
        | true => exact (hstill rfl).2 id hni
        | false => exact hgood.2 id hni (by rw [← hm, hB id hid]; exact h5)
    have hx := extra_ok (T := (· ∈ tmpsOf ops r.o)) (lk := looks r.o.op = true) (C := appL S0 l1) (l := sel L l2) (B := B) (fun t ht => ⟨m2 t ht, fun _ id _ => by rw [m1]⟩) fun n1 e n2 hsel => by
      obtain ⟨k1, _, k3⟩ := key n1 e n2 hsel
      exact ⟨k1, fun F hF => (k3 F hF).2⟩
    refine .inl ⟨x, ?_, ?_⟩
    · have ht := hat.1.2
      rw [hk] at ht
      exact Fact.local ht hx hcap
    · show appL (appR B r) (sel L l2) = _
      have e1 : appR B r = setDst B r.o.dst x := by unfold appR; rw [hk]
      rw [e1]
      refine commute_ok fun e hes => ?_
      obtain ⟨n1, n2, hsel⟩ := List.append_of_mem hes
      obtain ⟨_, k2, k3⟩ := key n1 e n2 hsel
      exact ⟨k2, fun F hF => (k3 F hF).1⟩

theorem all_listed {ops : Array Oper} (hlt : ∀ i o, ops.toList[i]? = some o → ∀ e ∈ edges o, e < i) {listed : Array Bool} (hn : listed.size = ops.size) (hr : Region.ready .any ops listed = []) : ∀ i, i < ops.size → LS listed i := by
  intro i
  induction i using Nat.strongRecOn with
  | _ i ih =>
    intro hi
    refine Classical.byContradiction fun hh => ?_
    have ho : ops[i]? = some ops[i] := Array.getElem?_eq_getElem hi
    have : i ∈ Region.ready .any ops listed := (ready_iff hn).2 ⟨hh, _, ho, fun e he => by
      have hlt := hlt i ops[i] (by simp) e he
      exact ih e hlt (by omega)⟩
    rw [hr] at this; cases this
theorem cap_ok (h : SR w0 io E.ntmps S g a w) : ∀ f g caps, S.ev E 0 f = .fn g caps → caps.all AV.isCap = true := by
  intro f k caps hf
  have hF := ev_ok h 0 f
  rw [hf] at hF
  obtain ⟨vs, _, hl⟩ := hF
  refine List.all_eq_true.2 fun x hx => ?_
  obtain ⟨i, hi⟩ := List.mem_iff_getElem?.1 hx
  obtain ⟨v, _, hr⟩ := hl.get i x hi
  exact hr.1
theorem go_ok {ρ : Type} {κ : St → Option ρ} {r0 : ρ} (hT : ∀ t, (E.ty t).known = true → TyOK P t (E.ty t)) (hc : ∀ f, CallOK P f (E.calls f)) {ops : Array Oper} (D : Draw E ops.toList pre S0 rs) (hk : κ (appL S0 rs) = some r0) {Q : Exit → Act → World → Prop} :
    ∀ (fuel : Nat) {listed : Array Bool} {g : GM} {a : Act} {w : World}, listed.size = ops.size → unlisted ops.size listed ≤ fuel → (∀ i o, ops.toList[i]? = some o → LS listed i → ∀ e ∈ edges o, LS listed e) →
      SR w0 io E.ntmps (appL S0 (sel (fun i => listed.getD i false) rs)) g a w → Next E w0 io (appL S0 (sel (fun i => listed.getD i false) rs)) g κ r0 (Q .normal) → wpAny P .any ops Q fuel listed a w := by
  obtain ⟨hlt, _⟩ := pairs_get D.pairs
  have done : ∀ {listed : Array Bool} {g : GM} {a : Act} {w : World}, listed.size = ops.size → (∀ i, i < ops.size → LS listed i) → SR w0 io E.ntmps (appL S0 (sel (fun i => listed.getD i false) rs)) g a w → Next E w0 io (appL S0 (sel (fun i => listed.getD i false) rs)) g κ r0 (Q .normal) → Q .normal a w := by
    intro listed g a w hn hall h hK
    have e : sel (fun i => listed.getD i false) rs = rs := List.filter_eq_self.2 fun r hr => hall r.i (by
      have := (List.getElem?_eq_some_iff.1 (D.told hr)).1
      simpa using this)
    exact hK _ g a w (by rw [e]; exact hk) h (.refl _ _)
  intro fuel
  induction fuel with
  | zero =>
    intro listed g a w hn hu hcl h hK
    have hall : ∀ i, i < ops.size → LS listed i := fun i hi => unlisted_zero hn (Nat.le_zero.1 hu) hi
    exact ⟨ready_nil hn hall, done hn hall h hK⟩
  | succ fuel ih =>
    intro listed g a w hn hu hcl h hK
    refine ⟨fun hr => done hn (all_listed hlt hn hr) h hK, fun i hi => ?_⟩
    obtain ⟨h1, o, ho, h2⟩ := (ready_iff hn).1 hi
    have hilt : i < ops.size := (Array.getElem?_eq_some_iff.1 ho).1
    have hsz : i < listed.size := by omega
    have ho' : ops.toList[i]? = some o := by simpa using ho
    have hL' : ∀ j, j ≠ i → (listed.setIfInBounds i true).getD j false = listed.getD j false := fun j hj => by
      have := LS_set (listed := listed) (i := i) (j := j) hsz
      unfold LS at this
      cases hb : listed.getD j false with
      | true => exact this.2 (.inr hb)
      | false =>
        rw [Bool.eq_false_iff]
        intro hh
        rcases this.1 hh with e | e
        · exact hj e
        · rw [hb] at e; cases e
    have hcl' : ∀ j oj, ops.toList[j]? = some oj → LS (listed.setIfInBounds i true) j → ∀ e ∈ edges oj, LS (listed.setIfInBounds i true) e := fun j oj hoj hLj e he => by
      rcases (LS_set hsz).1 hLj with rfl | hLj
      · rw [ho'] at hoj; injection hoj with hoj; subst hoj
        exact (LS_set hsz).2 (.inr (h2 e he))
      · exact (LS_set hsz).2 (.inr (hcl j oj hoj hLj e he))
    have hn' : (listed.setIfInBounds i true).size = ops.size := by simp [hn]
    have hu' : unlisted ops.size (listed.setIfInBounds i true) ≤ fuel := by have := unlisted_set hn hilt h1; omega
    have hnx := next_ok (i := i) D (L := fun i => listed.getD i false) (L' := fun j => (listed.setIfInBounds i true).getD j false) hcl ho' (Bool.eq_false_iff.2 h1) h2 ((LS_set hsz).2 (.inl rfl)) hL' (cap_ok h)
    unfold wpOp
    rw [ho]
    rcases hnx with ⟨x, hf, heq⟩ | ⟨F, hf, heq⟩
    · refine fact_ok hT hc h hf fun V w' hm hr => ?_
      refine ih (g := g) hn' hu' hcl' ?_ ?_
      · rw [heq]
        cases hd : o.dst with
        | none => simpa [setDst, Act.put] using h.more hm
        | some d => exact SR.put (h.more hm) d x V hr
      · intro S2 g2 a2 w2 h6 h7 h8
        refine hK S2 g2 a2 w2 h6 h7 (Kept.trans (.of_m ?_) h8)
        rw [heq, setDst_m]
    · refine efact_ok hT hc h hf fun g' a' w' h3 h4 => ?_
      refine ih hn' hu' hcl' (by rw [heq]; exact h3) ?_
      intro S2 g2 a2 w2 h6 h7 h8
      refine hK S2 g2 a2 w2 h6 h7 (Kept.trans h4 ?_)
      rw [← heq]; exact h8
theorem nodupB_ok : ∀ {l : List Nat}, nodupB l = true → l.Nodup
  | [], _ => List.nodup_nil
  | k :: l, h => by
    simp only [nodupB, Bool.and_eq_true, Bool.not_eq_true'] at h
    refine List.nodup_cons.2 ⟨fun hk => ?_, nodupB_ok h.2⟩
    rw [List.any_eq_true.2 ⟨k, hk, beq_self k⟩] at h; cases h.1
/-- A region whose order is left open. -/
theorem draw_ok {ρ : Type} {κ : St → Option ρ} {r : ρ} (hT : ∀ t, (E.ty t).known = true → TyOK P t (E.ty t)) (hc : ∀ f, CallOK P f (E.calls f)) (hm : P.follows .mixedOrders = true) {id : Nat} {ops : Array Oper} {Q : Exit → Act → World → Prop} (h : SR w0 io E.ntmps S g a w)
    (hk : drawK E ops.toList S κ = some r) (hK : Next E w0 io S g κ r (Q .normal)) : (Code.region id ops true).wp P Q a w := by
  unfold drawK at hk
  simp only at hk
  rcases cond_some hk with ⟨hp, hk⟩ | ⟨_, hk⟩
  rotate_left
  · cases hk
  simp only [Bool.and_eq_true] at hp
  obtain ⟨⟨⟨hp1, hp2⟩, hp3⟩, hp4⟩ := hp
  obtain ⟨rs, h1, h2, h3⟩ := go_goes hk
  have D : Draw E ops.toList (forerun ops.toList []) S rs := ⟨h2, by rw [h1]; exact nodupB_ok hp3, fun i hi => by
    obtain ⟨j, hj, e⟩ := List.any_eq_true.1 (List.all_eq_true.1 hp4 i (List.mem_range.2 hi))
    rw [← h1] at hj
    obtain ⟨r, hr, hri⟩ := List.mem_map.1 hj
    exact ⟨r, hr, by rw [hri]; exact (beq_true e).symm⟩, by rw [h1]; exact hp2, rfl, hp1⟩
  refine wp_region_any hm ?_
  have none : ∀ i, (Array.replicate ops.size false).getD i false = false := fun i => by
    simp only [Array.getD_eq_getD_getElem?, Array.getElem?_replicate]
    split <;> rfl
  have e0 : sel (fun i => (Array.replicate ops.size false).getD i false) rs = [] := List.filter_eq_nil_iff.2 fun r _ hr => by
    simp only [none] at hr; cases hr
  refine go_ok hT hc D h3 ops.size (by simp) ?_ (fun i o _ hL => by unfold LS at hL; rw [none] at hL; cases hL) (by rw [e0]; exact h.more (More.drew w)) (by rw [e0]; exact hK)
  unfold unlisted
  exact Nat.le_trans (List.length_filter_le _ _) (by simp)
end
end Go.Proofs.Ytckieogkaodkdaa.V
