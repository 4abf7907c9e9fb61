/- Functions. -/
import Derived.Test.YtckieogkaodkdaaWq
set_option linter.unusedVariables false
set_option linter.unusedSimpArgs false
namespace Go.Proofs.Ytckieogkaodkdaa.V
open Go Go.RowKit

def resultOf (a : Act) (x : ResultVar) : Sem Value :=
  match x with
  | .tmp t => pure (a.tmps.getD t undef)
  | .cell x t => do
    let y ← asAddr (a.tmps.getD x undef)
    loadVar t y
section
variable {P : Program} {E : Env} {w0 : World} {io : Nat → Prop} {S : St} {g : GM} {a : Act} {w : World}
theorem resK_ok {ρ : Type} (hT : ∀ t, (E.ty t).known = true → TyOK P t (E.ty t)) (h : SR w0 io E.ntmps S g a w) : ∀ (rs : List ResultVar) {κ : List AV → Option ρ} {r : ρ}, resK E S rs κ = some r →
    ∃ l vs, κ l = some r ∧ (rs.mapM (resultOf a)).run P w = .ok vs w ∧ All2 (R3 w (okOf w S.m g) S.m g) l vs
  | [], κ, r, hk => ⟨[], [], hk, by simp, .nil⟩
  | .tmp t :: rs, κ, r, hk => by
    simp only [resK] at hk
    obtain ⟨l, vs, h1, h2, h3⟩ := resK_ok hT h rs hk
    refine ⟨_, a.eval (.tmp t) :: vs, h1, ?_, .cons (ev_ok h 0 _) h3⟩
    simp only [List.mapM_cons, resultOf, Sem.run_bind, Sem.run_pure, Result.andThen_ok, h2]
    rfl
  | .cell x T :: rs, κ, r, hk => by
    simp only [resK] at hk
    rcases cond_some hk with ⟨hkn, hk⟩ | ⟨_, hk⟩
    rotate_left
    · cases hk
    obtain ⟨z, V, ad, h1, h2, h3, h4⟩ := load_run h (hT T hkn) hk
    obtain ⟨l, vs, h5, h6, h7⟩ := resK_ok hT h rs h1
    refine ⟨_, V :: vs, h5, ?_, .cons h2 h7⟩
    have hx : a.tmps.getD x undef = .pointer (some ad) := h3
    simp only [List.mapM_cons, resultOf, Sem.run_bind, Sem.run_pure, Result.andThen_ok, hx, asAddr, h4, h6]
def oneV : List Value → Value
  | [v] => v
  | l => .tuple l.toArray
theorem results_run (fn : Func) {vs : List Value} (h : (fn.results.toList.mapM (resultOf a)).run P w = .ok vs w) :
    (results fn a.tmps).run P w = .ok (oneV vs) w := by
  have e : results fn a.tmps = (do
      let vs ← fn.results.mapM (resultOf a)
      pure (if h : vs.size = 1 then vs[0] else .tuple vs)) := by
    unfold results
    congr 1
  rw [e, Array.mapM_eq_mapM_toList]
  simp only [Sem.run_bind, map_eq_pure_bind, bind_assoc, pure_bind, h, Result.andThen_ok, Sem.run_pure]
  congr 1
  match vs with
  | [] => rfl
  | [v] => rfl
  | v :: u :: l => rfl

theorem enters {f : Nat} {fn : Func} {c : Code} (hf : P.funcs[f]? = some fn) (hname : (fn.name == "runtime.NumGoroutine") = false) (hb : fn.body = some c) (args : Array Value) (w : World) : (callFunc f args).run P w = .ok (.enter f args) w := by
  have h1 : fn.name ≠ "runtime.NumGoroutine" := by simpa using hname
  simp [callFunc, hf, h1, hb, run_program']
theorem fine_at {F : FForm} (h : F.fine = true) : F.res.closed F.rms = true ∧ F.args.all (P2.closed F.ms) = true ∧ (∀ p ∈ F.rms, F.args.length ≤ p.1 ∧ ∃ T e dp, p.2 = .obj T e dp) ∧ ∀ p ∈ F.ms, p.1 < F.args.length ∧ p.2.lent = true := by
  simp only [FForm.fine, Bool.and_eq_true, List.all_eq_true] at h
  obtain ⟨⟨⟨h1, h2⟩, h3⟩, h4⟩ := h
  refine ⟨h1, List.all_eq_true.2 h2, fun p hp => ⟨Nat.le_of_ble_eq_true (h3 p hp).1, ?_⟩, fun p hp => ⟨Nat.le_of_ble_eq_true (h4 p hp).1, (h4 p hp).2⟩⟩
  have := (h3 p hp).2
  split at this
  · rename_i T e dp he; exact ⟨T, e, dp, he⟩
  · cases this
theorem wr2_length : ∀ {l : List P2} {x : P2L l}, (wr2 l x).length = l.length
  | [], _ => rfl
  | p :: l, x => by simp only [wr2, List.length_cons, wr2_length]
theorem rd2_length : ∀ {l : List P2} {vs : List AV} {x : P2L l}, rd2 l vs = some x → vs.length = l.length
  | [], [], _, _ => rfl
  | [], _ :: _, _, h => by cases h
  | _ :: _, [], _, h => by cases h
  | p :: r, v :: vs, x, h => by
    simp only [rd2] at h
    split at h
    · split at h
      · rename_i z hz; simp only [List.length_cons, rd2_length hz]
      · cases h
    · cases h
theorem wr1_isD : ∀ {l : List P1} {x : P1L l}, l.all P1.isDat = true → (wr1 l x).all AV.isD = true
  | [], _, _ => rfl
  | p :: l, x, h => by
    simp only [List.all_cons, Bool.and_eq_true] at h
    simp only [wr1, List.all_cons, Bool.and_eq_true]
    refine ⟨?_, wr1_isD h.2⟩
    cases p with
    | a p => cases p <;> first | rfl | exact absurd h.1 (by simp [P1.isDat])
    | fn f l => exact absurd h.1 (by simp [P1.isDat])
theorem MPt.sames {p : MPt} (hp : p.lent = true) {M0 M : ME} {y0 y : p.ty} (h0 : p.rd M0 = some y0) (h : p.rd M = some y) : Sames M0 (p.wr y) := by
  cases p with
  | box l => obtain ⟨vs, rfl, _⟩ := MPt.rd_box h0; exact ⟨_, rfl, wr1_isD hp⟩
  | arr e n => rw [MPt.rd_arr h0]; exact ⟨_, rfl⟩
  | obj T e dp => rw [MPt.rd_obj h0]; exact ⟨_, rfl⟩
theorem rd2_flat {w : World} {ok : Nat → Prop} {m : Nat → ME} {g : GM} : ∀ {l : List P2} {vs : List AV} {x : P2L l}, rd2 l vs = some x → ∀ {Vs : List Value}, All2 (R3 w ok m g) vs Vs → All2 (R2 w ok m g) vs Vs
  | [], [], _, _, _, h => by cases h; exact .nil
  | [], _ :: _, _, h, _, _ => by cases h
  | _ :: _, [], _, h, _, _ => by cases h
  | p :: r, v :: vs, x, h, Vs, hr => by
    simp only [rd2] at h
    split at h
    · rename_i y hy
      split at h
      · rename_i z hz
        cases hr with
        | cons h1 h2 =>
          refine .cons ?_ (rd2_flat hz h2)
          cases v <;> first | exact h1 | exact (P2.rd_tup hy).elim
      · cases h
    · cases h
theorem tup_flat {w : World} {ok : Nat → Prop} {m : Nat → ME} {g : GM} {p : P3} {vs : List AV} {x : p.ty} (h : p.rd (.tup vs) = some x) {Vs : List Value} (hr : All2 (R3 w ok m g) vs Vs) : All2 (R2 w ok m g) vs Vs := by
  cases p with
  | a p => exact (P2.rd_tup h).elim
  | tup q => exact rd2_flat h hr
theorem over_none {x y : Nat → ME} {k : Nat} (h : x k = .none) : over x y k = y k := by unfold over; rw [h]
theorem over_some {x y : Nat → ME} {k : Nat} (h : x k ≠ .none) : over x y k = x k := by
  unfold over
  split
  · rename_i h'; exact absurd h' h
  · rename_i h'; rfl
theorem MPt.wr_live {p : MPt} (y : p.ty) : p.wr y ≠ .none := by cases p <;> simp [MPt.wr]
/-- What becomes of a call. -/
def CallsOK (P : Program) (f : Nat) (s : Spec) : Prop :=
  ∀ args m cc ca, s args m = some cc → cc.o = some ca → ∀ g vals w, Pre args m g vals w → Calls P f vals w (fun | .returned v, w' => Post m g w cc.news (cc.enc ca).1 (cc.enc ca).2 v w' | _, _ => False)
/-- A function whose body's run is told does what is told of it. -/
theorem fn_calls {f : Nat} {fn : Func} {c : Code} {F : FForm} {G : F.X → Option F.A} (hT : ∀ t, (E.ty t).known = true → TyOK P t (E.ty t)) (hc : ∀ f, CallOK P f (E.calls f)) (hm : P.follows .mixedOrders = true)
    (hf : P.funcs[f]? = some fn) (hname : (fn.name == "runtime.NumGoroutine") = false) (hb : fn.body = some c) (hn : E.ntmps = fn.ntmps) (hio : E.nio = F.args.length) (hle : Nat.ble F.args.length fn.ntmps = true) (hfine : F.fine = true)
    (hl : AllLoops (LoopOK P E) c) (hG : ∀ x, F.run E fn c x = G x) : CallsOK P f (F.spec G) := by
  intro args m cc ca hs ho g vals w hp
  obtain ⟨hf1, hf2, hf3, hf4⟩ := fine_at hfine
  unfold FForm.spec at hs
  split at hs
  rotate_left
  · cases hs
  rename_i x hx
  split at hs
  rotate_left
  · cases hs
  rename_i y hy
  cases hcov : ((List.range F.args.length).all fun i => noneM (m i) || hasBox F.ms i || hasObj F.ms i) with
  | false => rw [hcov] at hs; cases hs
  | true =>
  rw [hcov] at hs
  injection hs with hs
  subst hs
  have ho : G (x, y) = some ca := ho
  have hlen : args.length = F.args.length := rd2_length hx
  have hM := rdM_eq hy
  have hin : ∀ id, m id ≠ .none → hasBox F.ms id = true ∨ hasObj F.ms id = true := fun id hid => by
    by_cases hlt : id < F.args.length
    · have := List.all_eq_true.1 hcov id (List.mem_range.2 hlt)
      simp only [Bool.or_eq_true] at this
      rcases this with (h1 | h1) | h1
      · cases hmi : m id <;> rw [hmi] at h1 hid <;> first | exact absurd rfl hid | cases h1
      · exact .inl h1
      · exact .inr h1
    · exact absurd (hp.io id (by omega)) hid
  -- what is lent is what is read of it
  have hat : ∀ id, m id ≠ .none → ∃ p ∈ F.ms, p.1 = id ∧ ∃ y0, p.2.rd (m id) = some y0 ∧ wrM F.ms y id = p.2.wr y0 := fun id hid => by
    rcases hM id with ⟨p, h1, h2, y0, h3, h4, _⟩ | ⟨_, h1, h2⟩
    · exact ⟨p, h1, h2, y0, h3, h4⟩
    · have := hin id hid; rw [h1, h2] at this; simp at this
  have hbl : ∀ id e, blks (wrM F.ms y id) e = blks (m id) e := fun id e => by
    rcases hM id with ⟨p, _, _, y0, h3, h4, _⟩ | ⟨h1, h2, h3⟩
    · rw [h4, MPt.blks_eq h3]
    · by_cases hid : m id = .none
      · rw [h1, hid]
      · have := hin id hid; rw [h2, h3] at this; simp at this
  have hx0 : Ext w (okOf w m g) w (okOf w (wrM F.ms y) g) := fun k hk => ⟨⟨hk.1, hk.2.1, fun id hi => hk.2.2 id (by rw [hbl] at hi; exact hi)⟩, rfl⟩
  have hsim := rdM_sim (g := g) hy
  have hvl : vals.size = F.args.length := by rw [← hlen, hp.rel.length]; simp
  have hle' := Nat.le_of_ble_eq_true hle
  have hmc : ∀ p ∈ F.ms, p.2.closed F.ms = true := fun p hp => by
    have hl := (hf4 p hp).2
    obtain ⟨i, q⟩ := p
    cases q with
    | box l =>
      simp only [MPt.lent, List.all_eq_true] at hl
      simp only [MPt.closed, List.all_eq_true]
      intro z hz
      have := hl z hz
      cases z with
      | a z => cases z <;> first | rfl | exact absurd this (by simp [P1.isDat])
      | fn f l => exact absurd this (by simp [P1.isDat])
    | arr e n => rfl
    | obj T e dp => rfl
  have hrel : All2 (R2 w (okOf w (wrM F.ms y) g) (wrM F.ms y) g) (wr2 F.args x) vals.toList := rd2_keep hx0 hsim hf2 hx hp.rel
  -- the beginning
  have h0 : SR w (fun k => ∃ id, k ∈ blks (m id) (g id)) E.ntmps ⟨fun i => ((wr2 F.args x)[i]?).getD .undef, wrM F.ms y⟩ g { tmps := vals ++ Array.replicate (fn.ntmps - vals.size) undef, defers := [] } w := by
    refine ⟨rfl, rfl, rfl, Nat.le_refl _, fun _ _ _ => rfl, fun id k hk => ?_, fun id id' k hk hk' => ?_, fun id => ?_, ?_, rfl, hp.ex, fun id k hk => ?_, fun t v ht => ?_⟩
    · have hk : k ∈ blks (wrM F.ms y id) (g id) := hk
      rw [hbl] at hk
      exact ⟨(hp.own id k hk).1, .inr ⟨id, hk⟩⟩
    · have hk : k ∈ blks (wrM F.ms y id) (g id) := hk
      have hk' : k ∈ blks (wrM F.ms y id') (g id') := hk'
      rw [hbl] at hk hk'
      exact hp.disj id id' k hk hk'
    · show MR w _ (wrM F.ms y) g (wrM F.ms y id) (g id)
      rcases hM id with ⟨p, hpm, _, y0, h3, h4, _⟩ | ⟨h1, _⟩
      · rw [h4]; exact MPt.keep hx0 hsim (hmc p hpm) h3 (hp.mem id)
      · rw [h1]; trivial
    · rw [hn]; simp; omega
    · have hk : k ∈ blks (wrM F.ms y id) (g id) := hk
      rw [hbl] at hk
      exact (hp.own id k hk).2
    · by_cases hlt : t < vals.size
      · rw [Array.getElem?_append_left hlt] at ht
        obtain ⟨u, hu, hr⟩ := hrel.get' t v (by simpa using ht)
        show R3 w _ (wrM F.ms y) g (((wr2 F.args x)[t]?).getD .undef) v
        rw [hu]
        exact .of2 hr
      · show R3 w _ (wrM F.ms y) g (((wr2 F.args x)[t]?).getD .undef) v
        rw [List.getElem?_eq_none (by rw [wr2_length, ← hvl]; omega)]
        exact trivial
  refine calls_of_wp hf hb ?_
  have hrun := hG (x, y)
  unfold FForm.run runFn at hrun
  rw [ho] at hrun
  refine run_ok hT hc hm c hl h0 hrun fun e S' g1 a' w' h1 h2 h3 => ?_
  rcases cond_some h1 with ⟨he, h1⟩ | ⟨_, h1⟩
  rotate_left
  · cases h1
  have hQ : a'.defers = [] ∧ (∃ v, (results fn a'.tmps).run P w' = .ok v w' ∧ Post m g w (F.rms.map (·.1)) (F.res.wr ca.1) (over (wrM F.rms ca.2.2) (wrM F.ms ca.2.1)) v w') → bodyPost P fn (fun | .returned v, w' => Post m g w (F.rms.map (·.1)) (F.res.wr ca.1) (over (wrM F.rms ca.2.2) (wrM F.ms ca.2.1)) v w' | _, _ => False) (exitOf e) a' w' := by
    intro h
    match e, Nat.le_of_ble_eq_true he with
    | 0, _ => exact h
    | 1, _ => exact h
  refine hQ ⟨h2.defers, ?_⟩
  clear hQ
  unfold finish at h1
  obtain ⟨l, vs0, h4, _, _⟩ := resK_ok hT h2 fn.results.toList h1
  obtain ⟨g2, h5, h6⟩ := fit3_ok (nio := E.nio) S' F.res (oneOr l) w _ _ g1 a' w' h2
  have hkp := h3.trans h6
  generalize fit3 E.nio S' F.res (oneOr l) = S2 at *
  obtain ⟨l2, vs, h7, h8, h9⟩ := resK_ok hT h5 fn.results.toList h4
  unfold FForm.rdA at h7
  split at h7
  rotate_left
  · cases h7
  rename_i xa hxa
  split at h7
  rotate_left
  · cases h7
  rename_i ya hya
  split at h7
  rotate_left
  · cases h7
  rename_i za hza
  injection h7 with h7
  subst h7
  refine ⟨oneV vs, results_run fn h8, ?_⟩
  have hMa := rdM_eq hya
  have hMz := rdM_eq hza
  -- the memory that comes back
  have hrm : ∀ id, (∃ p ∈ F.rms, p.1 = id ∧ ∃ z0, p.2.rd (S2.m id) = some z0 ∧ over (wrM F.rms za) (wrM F.ms ya) id = p.2.wr z0 ∧ F.args.length ≤ id) ∨
      (over (wrM F.rms za) (wrM F.ms ya) id = wrM F.ms ya id ∧ hasBox F.rms id = false ∧ hasObj F.rms id = false) := fun id => by
    rcases hMz id with ⟨p, h1, h2, z0, h3, h4, _⟩ | ⟨h1, h2⟩
    · refine .inl ⟨p, h1, h2, z0, h3, ?_, h2 ▸ (hf3 p h1).1⟩
      rw [over_some (by rw [h4]; exact MPt.wr_live _), h4]
    · exact .inr ⟨over_none h1, h2⟩
  have hmat : ∀ id, m id ≠ .none → ∃ p ∈ F.ms, p.1 = id ∧ (∃ y0, p.2.rd (m id) = some y0 ∧ wrM F.ms y id = p.2.wr y0) ∧ ∃ y1, p.2.rd (S2.m id) = some y1 ∧ over (wrM F.rms za) (wrM F.ms ya) id = p.2.wr y1 ∧ id < E.nio ∧ g2 id = g id := fun id hid => by
    have hlt : id < E.nio := by rw [hio, ← hlen]; exact Nat.lt_of_not_le fun hle => hid (hp.io id hle)
    have ha : ∃ p ∈ F.ms, p.1 = id ∧ ∃ y1, p.2.rd (S2.m id) = some y1 ∧ wrM F.ms ya id = p.2.wr y1 := by
      rcases hMa id with ⟨p, h1, h2, y1, h3, h4, _⟩ | ⟨_, h1, h2⟩
      · exact ⟨p, h1, h2, y1, h3, h4⟩
      · have := hin id hid; rw [h1, h2] at this; simp at this
    obtain ⟨p, h1, h2, y1, h3, h4⟩ := ha
    have hgk : g2 id = g id := (hkp.2 id hlt).1 (MPt.live h3)
    obtain ⟨p', h1', h2', y0, h3', h4'⟩ := hat id hid
    have hov : over (wrM F.rms za) (wrM F.ms ya) id = wrM F.ms ya id := by
      rcases hrm id with ⟨_, _, _, _, _, _, hge⟩ | ⟨h, _⟩
      · rw [← hio] at hge; omega
      · exact h
    -- both reads follow one make: the first of the name
    have one : ∀ {l : List (Nat × MPt)} {m1 m2 : Nat → ME} {x1 x2 : MsL l}, rdM l m1 = some x1 → rdM l m2 = some x2 → (hasBox l id = true ∨ hasObj l id = true) → ∃ q ∈ l, q.1 = id ∧ (∃ u1, q.2.rd (m1 id) = some u1 ∧ wrM l x1 id = q.2.wr u1) ∧ ∃ u2, q.2.rd (m2 id) = some u2 ∧ wrM l x2 id = q.2.wr u2 := by
      intro l
      induction l with
      | nil => intro m1 m2 x1 x2 _ _ h; rcases h with h | h <;> cases h
      | cons q r ih =>
        intro m1 m2 x1 x2 e1 e2 hh
        simp only [rdM] at e1 e2
        split at e1
        rotate_left
        · cases e1
        rename_i u1 hu1
        split at e1
        rotate_left
        · cases e1
        rename_i v1 hv1
        injection e1 with e1
        subst e1
        split at e2
        rotate_left
        · cases e2
        rename_i u2 hu2
        split at e2
        rotate_left
        · cases e2
        rename_i v2 hv2
        injection e2 with e2
        subst e2
        by_cases e : id = q.1
        · refine ⟨q, List.mem_cons_self .., e.symm, ⟨u1, by rw [e]; exact hu1, ?_⟩, u2, by rw [e]; exact hu2, ?_⟩
          · simp only [wrM, upd, e, beq_self, cond_true]
          · simp only [wrM, upd, e, beq_self, cond_true]
        · have e3 : hasBox r id = true ∨ hasObj r id = true := by
            obtain ⟨i, q⟩ := q
            cases q <;> simpa [hasBox, hasObj, beq_ne (Ne.symm e)] using hh
          obtain ⟨q', k1, k2, k3, k4⟩ := ih hv1 hv2 e3
          refine ⟨q', List.mem_cons_of_mem _ k1, k2, ?_, ?_⟩
          · obtain ⟨u, k5, k6⟩ := k3; exact ⟨u, k5, by simp only [wrM, upd, beq_ne e, cond_false]; exact k6⟩
          · obtain ⟨u, k5, k6⟩ := k4; exact ⟨u, k5, by simp only [wrM, upd, beq_ne e, cond_false]; exact k6⟩
    obtain ⟨q, k1, k2, k3, u2, k4, k5⟩ := one hy hya (hin id hid)
    exact ⟨q, k1, k2, k3, u2, k4, by rw [hov]; exact k5, hlt, hgk⟩
  have hbA : ∀ id e k, k ∈ blks (over (wrM F.rms za) (wrM F.ms ya) id) e → k ∈ blks (S2.m id) e := fun id e k hk => by
    rcases hrm id with ⟨p, _, _, z0, h3, h4, _⟩ | ⟨h1, _⟩
    · rw [h4, MPt.blks_eq h3] at hk; exact hk
    · rw [h1] at hk
      rcases hMa id with ⟨p, _, _, y1, h3, h4, _⟩ | ⟨h2, _⟩
      · rw [h4, MPt.blks_eq h3] at hk; exact hk
      · rw [h2] at hk; cases hk
  have hin2 : ∀ id k, k ∈ blks (m id) (g id) → id < E.nio ∧ k ∈ blks (S2.m id) (g2 id) := fun id k hk => by
    have hjn : m id ≠ .none := fun h => by rw [h] at hk; cases hk
    obtain ⟨p, _, _, ⟨y0, k1, _⟩, y1, k2, _, k3, k4⟩ := hmat id hjn
    refine ⟨k3, ?_⟩
    rw [k4, ← MPt.blks_eq k2]
    rw [← MPt.blks_eq k1] at hk
    obtain ⟨i, q⟩ := p
    cases q <;> exact hk
  let g' : GM := ⟨g2.e, g.ex⟩
  have hx2 : Ext w' (okOf w' S2.m g2) w' (okOf w' (over (wrM F.rms za) (wrM F.ms ya)) g') := fun k hk => ⟨⟨hk.1, fun he => hk.2.1 (hkp.1 k he), fun id hi => hk.2.2 id (hbA id _ k hi)⟩, rfl⟩
  have hsz : ∀ id, hasBox F.rms id = true ∨ hasObj F.rms id = true → Sim S2.m g2 (over (wrM F.rms za) (wrM F.ms ya)) g2 id := fun id hi => by
    rcases hrm id with ⟨p, _, _, z0, h3, h4, _⟩ | ⟨_, h1, h2⟩
    · exact MPt.sim h3 h4
    · rw [h1, h2] at hi; simp at hi
  -- the relations do not look at the blocks that are not to be read
  have rex : ∀ {x : AV} {v : Value}, R3 w' (okOf w' (over (wrM F.rms za) (wrM F.ms ya)) g') (over (wrM F.rms za) (wrM F.ms ya)) g2 x v → R3 w' (okOf w' (over (wrM F.rms za) (wrM F.ms ya)) g') (over (wrM F.rms za) (wrM F.ms ya)) g' x v := fun h => R3.map0 (fun x v h => R0.sim (fun k hk => ⟨hk, rfl⟩) (fun id _ => Sim.of_eq rfl rfl) h) h
  refine ⟨h5.os, h5.tape, h5.output, h5.size, fun k hk hnio => h5.same k hk fun ⟨id, hid⟩ => hnio id hid, g', rfl, fun id hid => ?_, fun id hid => ?_, fun id hid hnn => ?_, fun id id' k hk hk' => h5.disj id id' k (hbA id _ k hk) (hbA id' _ k hk'), fun id => ?_, ?_⟩
  · obtain ⟨p, hpm, _, ⟨y0, k1, _⟩, y1, k2, k3, _, k4⟩ := hmat id hid
    exact ⟨k4, by show Sames (m id) (over (wrM F.rms za) (wrM F.ms ya) id); rw [k3]; exact MPt.sames (hf4 p hpm).2 k1 k2⟩
  · have hge : F.args.length ≤ id := by
      obtain ⟨p, hp1, hp2⟩ := List.mem_map.1 hid
      exact hp2 ▸ (hf3 p hp1).1
    refine ⟨hp.io id (by omega), ?_, fun k hk => ?_⟩
    · show ∃ T e dp xs, over (wrM F.rms za) (wrM F.ms ya) id = _
      rcases hrm id with ⟨p, h1, _, z0, _, h4, _⟩ | ⟨_, h1, h2⟩
      · obtain ⟨_, T, e, dp, he⟩ := hf3 p h1
        obtain ⟨i, q⟩ := p
        simp only at he
        subst he
        exact ⟨T, e, dp, z0, h4⟩
      · obtain ⟨p, hp1, hp2⟩ := List.mem_map.1 hid
        exfalso
        obtain ⟨_, T, e, dp, he⟩ := hf3 p hp1
        have : ∀ {l : List (Nat × MPt)}, p ∈ l → hasObj l id = true := by
          intro l
          induction l with
          | nil => intro h; cases h
          | cons q r ih =>
            intro h
            rcases List.mem_cons.1 h with rfl | h
            · obtain ⟨i, q⟩ := p
              simp only at he hp2
              subst he; subst hp2
              simp [hasObj, beq_self]
            · have ih := ih h
              obtain ⟨i, q⟩ := q
              cases q <;> simp [hasObj, ih]
        rw [this hp1] at h2; cases h2
    · have hk2 := hbA id _ k hk
      obtain ⟨h11, h12⟩ := h5.own id k hk2
      refine ⟨?_, h11⟩
      rcases h12 with h12 | ⟨id0, h12⟩
      · exact h12
      · obtain ⟨h13, h14⟩ := hin2 id0 k h12
        have := h5.disj id id0 k hk2 h14
        omega
  · show over (wrM F.rms za) (wrM F.ms ya) id = .none
    rcases hrm id with ⟨p, h1, h2, _⟩ | ⟨h1, _⟩
    · exact absurd (List.mem_map.2 ⟨p, h1, h2⟩) hnn
    · rw [h1]
      rcases hMa id with ⟨p, h2, h3, _, _, _, hh⟩ | ⟨h2, _⟩
      · exfalso
        rcases hM id with ⟨_, _, _, _, h4, _⟩ | ⟨_, h4, h5⟩
        · exact MPt.live h4 hid
        · rw [h4, h5] at hh; simp at hh
      · exact h2
  · show MR w' _ _ g' (over (wrM F.rms za) (wrM F.ms ya) id) (g2 id)
    have hgen : ∀ {p : MPt} {u : p.ty}, p.closed [] = true → p.rd (S2.m id) = some u → MR w' (okOf w' (over (wrM F.rms za) (wrM F.ms ya)) g') (over (wrM F.rms za) (wrM F.ms ya)) g' (p.wr u) (g2 id) := fun hcl hrd =>
      MR.map0 (fun k hk => ⟨hk, rfl⟩) (fun x v h => R0.sim (fun k hk => ⟨hk, rfl⟩) (fun id _ => Sim.of_eq rfl rfl) h) (fun _ _ => rfl) (MPt.keep (ms := []) (m' := over (wrM F.rms za) (wrM F.ms ya)) hx2 (fun j hj => by rcases hj with hj | hj <;> cases hj) hcl hrd (h5.mem id))
    have hclb : ∀ p ∈ F.ms, p.2.closed [] = true := fun p hp => by
      have hl := (hf4 p hp).2
      obtain ⟨i, q⟩ := p
      cases q with
      | box l =>
        simp only [MPt.lent, List.all_eq_true] at hl
        simp only [MPt.closed, List.all_eq_true]
        intro z hz
        have := hl z hz
        cases z with
        | a z => cases z <;> first | rfl | exact absurd this (by simp [P1.isDat])
        | fn f l => exact absurd this (by simp [P1.isDat])
      | arr e n => rfl
      | obj T e dp => rfl
    rcases hrm id with ⟨p, h1, _, z0, h3, h4, _⟩ | ⟨h1, _⟩
    · rw [h4]
      refine hgen ?_ h3
      obtain ⟨_, T, e, dp, he⟩ := hf3 p h1
      rw [he]; rfl
    · rw [h1]
      rcases hMa id with ⟨p, h2, _, y1, h3, h4, _⟩ | ⟨h2, _⟩
      · rw [h4]; exact hgen (hclb p h2) h3
      · rw [h2]; trivial
  · refine rex (P3.keep hx2 hsz hf1 hxa ?_)
    match l2, vs, h9 with
    | [], [], h => exact ⟨#[], rfl, .nil⟩
    | [y], [u], .cons h .nil => exact h
    | y :: z :: l, u :: v :: us, h =>
      exact ⟨(u :: v :: us).toArray, rfl, tup_flat (p := F.res) hxa h⟩
theorem fn_ok {f : Nat} {fn : Func} {c : Code} {F : FForm} {G : F.X → Option F.A} (hT : ∀ t, (E.ty t).known = true → TyOK P t (E.ty t)) (hc : ∀ f, CallOK P f (E.calls f)) (hm : P.follows .mixedOrders = true)
    (hf : P.funcs[f]? = some fn) (hname : (fn.name == "runtime.NumGoroutine") = false) (hb : fn.body = some c) (hn : E.ntmps = fn.ntmps) (hio : E.nio = F.args.length) (hle : Nat.ble F.args.length fn.ntmps = true) (hfine : F.fine = true)
    (hl : AllLoops (LoopOK P E) c) (hG : ∀ x, F.run E fn c x = G x) : CallOK P f (F.spec G) := by
  intro args m cc ca hs ho g vals w hp
  have hcalls := fn_calls hT hc hm hf hname hb hn hio hle hfine hl hG args m cc ca hs ho g vals w hp
  intro o a K Q hK
  rw [enters hf hname hb, Oper.upon_enter]
  exact Calls.mono hcalls fun e w' h => by
    cases e with
    | returned v => exact hK v w' h
    | panicked _ => exact h.elim
    | outgrown => exact h.elim
end

/-! ### tables -/
def tyOf : List (Nat × TI) → Nat → TI
  | [], _ => {}
  | (k, i) :: r, t => bif Nat.beq t k then i else tyOf r t
theorem tyOf_ok {P : Program} : ∀ {l : List (Nat × TI)}, (∀ p ∈ l, TyOK P p.1 p.2) → ∀ t, (tyOf l t).known = true → TyOK P t (tyOf l t)
  | [], _, t, h => by cases h
  | (k, i) :: r, hl, t, h => by
    simp only [tyOf] at h ⊢
    cases hb : Nat.beq t k with
    | true => rw [beq_true hb]; exact hl _ (List.mem_cons_self ..)
    | false => rw [hb] at h; exact tyOf_ok (fun p hp => hl p (List.mem_cons_of_mem _ hp)) t h
def specOf : List (Nat × Spec) → Nat → Spec
  | [], _ => noSpec
  | (k, s) :: r, f => bif Nat.beq f k then s else specOf r f
theorem noSpec_ok {P : Program} {f : Nat} : CallOK P f noSpec := fun _ _ _ _ h => by cases h
theorem specOf_ok {P : Program} : ∀ {l : List (Nat × Spec)}, (∀ p ∈ l, CallOK P p.1 p.2) → ∀ f, CallOK P f (specOf l f)
  | [], _, f => noSpec_ok
  | (k, s) :: r, hl, f => by
    simp only [specOf]
    cases hb : Nat.beq f k with
    | true => rw [beq_true hb]; exact hl _ (List.mem_cons_self ..)
    | false => exact specOf_ok (fun p hp => hl p (List.mem_cons_of_mem _ hp)) f
theorem orSpec_ok {P : Program} {f : Nat} {s t : Spec} (hs : CallOK P f s) (ht : CallOK P f t) : CallOK P f (orSpec s t) := by
  intro args m c a h ho
  unfold orSpec at h
  split at h
  · rename_i c' hc
    injection h with h
    subst h
    exact hs args m _ a hc ho
  · exact ht args m c a h ho
def loopOf : List (Nat × LoopSpec) → Nat → LoopSpec
  | [], _ => fun _ => none
  | (k, s) :: r, f => bif Nat.beq f k then s else loopOf r f
def objOf : List (Nat × Nat) → Nat → Option Nat
  | [], _ => none
  | (k, s) :: r, f => bif Nat.beq f k then some s else objOf r f
def mutOf : List (Nat × List Nat) → Nat → List Nat
  | [], _ => []
  | (k, s) :: r, f => bif Nat.beq f k then s else mutOf r f
def loudOf (l : List Nat) (d : Nat) : Bool := l.any (Nat.beq d)
/-- The loops of a code, those within loops left out. -/
def loopsOf : Code → List Code
  | .seq a b => loopsOf a ++ loopsOf b
  | .cond _ a b => loopsOf a ++ loopsOf b
  | .block _ c => loopsOf c
  | .loop c => [c]
  | _ => []
theorem loops_all {R : Code → Prop} : ∀ {c : Code}, (∀ b ∈ loopsOf c, R b) → AllLoops R c := by
  intro c
  induction c with
  | seq a b iha ihb => intro h; exact ⟨iha fun x hx => h x (List.mem_append_left _ hx), ihb fun x hx => h x (List.mem_append_right _ hx)⟩
  | cond c a b iha ihb => intro h; exact ⟨iha fun x hx => h x (List.mem_append_left _ hx), ihb fun x hx => h x (List.mem_append_right _ hx)⟩
  | block id c ih => intro h; exact ih h
  | loop c ih => intro h; exact h c (List.mem_singleton.2 rfl)
  | _ => intro _; trivial
theorem loops_nth {R : Code → Prop} {c : Code} (n : Nat) (hn : (loopsOf c).length = n) (h : ∀ i, i < n → R ((loopsOf c).getD i .skip)) : AllLoops R c :=
  loops_all fun b hb => by
    obtain ⟨i, hi⟩ := List.mem_iff_getElem?.1 hb
    have hlt := (List.getElem?_eq_some_iff.1 hi).1
    have := h i (by omega)
    simpa [List.getD, hi] using this
def bodyOf (f : Func) : Code := f.body.getD .skip

/-! ### functions that call themselves -/
def fixN {X A : Type} (B : (X → Option A) → X → Option A) : Nat → X → Option A
  | 0 => fun _ => none
  | n + 1 => B (fixN B n)
open Classical in
noncomputable def Fix {X A : Type} (B : (X → Option A) → X → Option A) (x : X) : Option A := if h : ∃ n a, fixN B n x = some a then fixN B h.choose x else none
theorem Fix_some {X A : Type} {B : (X → Option A) → X → Option A} {x : X} {a : A} (h : Fix B x = some a) : ∃ n, fixN B n x = some a := by
  unfold Fix at h
  split at h
  · exact ⟨_, h⟩
  · cases h
theorem fix_ok {P : Program} {f : Nat} {F : FForm} {B : (F.X → Option F.A) → F.X → Option F.A} (h : ∀ G, CallOK P f (F.spec G) → CallOK P f (F.spec (B G))) : CallOK P f (F.spec (Fix B)) := by
  have hn : ∀ n, CallOK P f (F.spec (fixN B n)) := by
    intro n
    induction n with
    | zero =>
      intro args m c a hs ho
      unfold FForm.spec at hs
      split at hs
      · split at hs
        · cases hcv : ((List.range F.args.length).all fun i => noneM (m i) || hasBox F.ms i || hasObj F.ms i) <;> rw [hcv] at hs
          · cases hs
          · injection hs with hs; subst hs; cases ho
        · cases hs
      · cases hs
    | succ n ih => exact h _ ih
  intro args m c a hs ho g vals w hp
  unfold FForm.spec at hs
  split at hs
  · rename_i x hx
    split at hs
    · rename_i y hy
      cases hcv : ((List.range F.args.length).all fun i => noneM (m i) || hasBox F.ms i || hasObj F.ms i) <;> rw [hcv] at hs
      · cases hs
      · injection hs with hs
        subst hs
        obtain ⟨n, hn'⟩ := Fix_some (B := B) (x := (x, y)) ho
        refine hn n args m ⟨F.A, fixN B n (x, y), fun a => (F.res.wr a.1, over (wrM F.rms a.2.2) (wrM F.ms a.2.1)), F.rms.map (·.1)⟩ a ?_ hn' g vals w hp
        unfold FForm.spec
        simp only [hx, hy, hcv]
        rfl
    · cases hs
  · cases hs
end Go.Proofs.Ytckieogkaodkdaa.V
