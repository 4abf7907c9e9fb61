/- Code and loops. -/
import Derived.Test.YtckieogkaodkdaaWp
set_option linter.unusedVariables false
set_option linter.unusedSimpArgs false
namespace Go.Proofs.Ytckieogkaodkdaa.V
open Go Go.RowKit

def exitOf : Nat → Exit
  | 0 => .normal
  | 1 => .ret
  | e + 2 => .exit e
/-- How a loop's meaning is borne out. -/
def LoopOK (P : Program) (E : Env) (c : Code) : Prop :=
  ∀ (w0 : World) (io : Nat → Prop) (S : St) (g : GM) (a : Act) (w : World) (l : LoopC) (b : Outs l.outs) (Q : Exit → Act → World → Prop) (ρ : Type) (K : Nat → St → Option ρ) (r : ρ),
    E.loops (firstRegion c) S = some l → l.o = some b → SR w0 io E.ntmps S g a w → outK l.outs b K = some r →
    (∀ e S' g' a' w', K e S' = some r → SR w0 io E.ntmps S' g' a' w' → Kept E.nio S g S' g' → Q (exitOf e) a' w') → (Code.loop c).wp P Q a w
def AllLoops (R : Code → Prop) : Code → Prop
  | .seq a b => AllLoops R a ∧ AllLoops R b
  | .cond _ a b => AllLoops R a ∧ AllLoops R b
  | .block _ c => AllLoops R c
  | .loop c => R c
  | _ => True

section
variable {P : Program} {E : Env} {w0 : World} {io : Nat → Prop}
theorem run_ok {ρ : Type} (hT : ∀ t, (E.ty t).known = true → TyOK P t (E.ty t)) (hc : ∀ f, CallOK P f (E.calls f)) (hm : P.follows .mixedOrders = true) :
    ∀ (c : Code) {S : St} {g : GM} {a : Act} {w : World} {K : Nat → St → Option ρ} {r : ρ} {Q : Exit → Act → World → Prop}, AllLoops (LoopOK P E) c → SR w0 io E.ntmps S g a w → run E c S K = some r →
      (∀ e S' g' a' w', K e S' = some r → SR w0 io E.ntmps S' g' a' w' → Kept E.nio S g S' g' → Q (exitOf e) a' w') → c.wp P Q a w := by
  intro c
  induction c with
  | skip => intro S g a w K r Q hl h hk hK; exact wp_skip (hK 0 S g a w hk h (.refl _ _))
  | region id ops draw =>
    intro S g a w K r Q hl h hk hK
    simp only [run] at hk
    rcases cond_some hk with ⟨hd, hk⟩ | ⟨hd, hk⟩
    · rw [hd]; exact draw_ok hT hc hm h hk fun S' g' a' w' h1 h2 h3 => hK 0 S' g' a' w' h1 h2 h3
    · rw [hd]; exact wp_region_list (ops_ok hT hc _ h hk fun S' g' a' w' h1 h2 h3 => hK 0 S' g' a' w' h1 h2 h3)
  | seq x y ihx ihy =>
    intro S g a w K r Q hl h hk hK
    refine wp_seq (ihx hl.1 h hk fun e S' g' a' w' h1 h2 h3 => ?_)
    match e with
    | 0 => exact ihy hl.2 h2 h1 fun e S2 g2 a2 w2 h4 h5 h6 => hK e S2 g2 a2 w2 h4 h5 (h3.trans h6)
    | 1 => exact hK 1 S' g' a' w' h1 h2 h3
    | e + 2 => exact hK (e + 2) S' g' a' w' h1 h2 h3
  | cond c x y ihx ihy =>
    intro S g a w K r Q hl h hk hK
    simp only [run] at hk
    split at hk
    · rename_i t hv
      have hC := ev_ok h 0 c
      rw [hv] at hC
      refine wp_cond hC.bool ?_
      cases t
      · exact ihy hl.2 h hk hK
      · exact ihx hl.1 h hk hK
    · cases hk
  | block id c ih =>
    intro S g a w K r Q hl h hk hK
    refine wp_block (ih hl h hk fun e S' g' a' w' h1 h2 h3 => ?_)
    have h1 : (bif Nat.beq e (id + 2) then K 0 S' else K e S') = some r := h1
    rcases cond_some h1 with ⟨hb, h4⟩ | ⟨hb, h4⟩
    · have := beq_true hb
      subst this
      simp only [exitOf, Exit.inBlock, if_true]
      exact hK 0 S' g' a' w' h4 h2 h3
    · match e with
      | 0 => exact hK 0 S' g' a' w' h4 h2 h3
      | 1 => exact hK 1 S' g' a' w' h4 h2 h3
      | e + 2 =>
        have : e ≠ id := fun he => by subst he; rw [beq_self] at hb; cases hb
        simp only [exitOf, Exit.inBlock, this, if_false]
        exact hK (e + 2) S' g' a' w' h4 h2 h3
  | loop c ih =>
    intro S g a w K r Q hl h hk hK
    simp only [run] at hk
    split at hk
    · rename_i l hl'
      obtain ⟨b, hb, hk⟩ := Option.bind_eq_some_iff.1 hk
      exact hl w0 io S g a w l b Q ρ K r hl' hb h hk hK
    · cases hk
  | exit id => intro S g a w K r Q hl h hk hK; exact wp_exit (hK (id + 2) S g a w hk h (.refl _ _))
  | ret => intro S g a w K r Q hl h hk hK; exact wp_ret (hK 1 S g a w hk h (.refl _ _))
  | _ => intros; rename_i hk _; cases hk
end

/-! ### what is read, laid down again -/
section
variable {w w' : World} {ok ok' : Nat → Prop} {m m' : Nat → ME} {g : GM} {ms : List (Nat × MPt)}
theorem rdL_rel (hx : Ext w ok w' ok') : ∀ {l : List ET} {vs : List AV} {x : ETs l} {Vs : List Value}, rdL l vs = some x → All2 (RA w ok) vs Vs → All2 (RA w' ok') (wrL l x) Vs
  | [], [], _, _, _, h => by cases h; exact .nil
  | [], _ :: _, _, _, h, _ => by cases h
  | _ :: _, [], _, _, h, _ => by cases h
  | e :: r, v :: vs, x, Vs, h, hr => by
    simp only [rdL] at h
    split at h
    · rename_i y hy
      split at h
      · rename_i z hz
        simp only [Option.some.injEq] at h
        subst h
        cases hr with
        | cons h1 h2 => exact .cons (Rd.mono hx (asE_ok (m := fun _ => .none) (g := ⟨fun _ => ⟨0, .lf⟩, fun _ => False⟩) hy h1.to1)) (rdL_rel hx hz h2)
      · cases h
    · cases h
theorem P0.keep (hx : Ext w ok w' ok') (hs : ∀ id, hasBox ms id = true ∨ hasObj ms id = true → Sim m g m' g id) {p : P0} (hp : p.closed ms = true) {v : AV} {x : p.ty} (hr : p.rd v = some x) {V : Value} (h : R0 w ok m g v V) : R0 w' ok' m' g (p.wr x) V := by
  cases p with
  | dat e => exact Rd.mono hx (asE_ok hr (R1.of0 h))
  | arr e n =>
    cases v <;> simp only [P0.rd] at hr <;> try (cases hr; done)
    rcases cond_some hr with ⟨hb, hr⟩ | ⟨_, hr⟩
    rotate_left
    · cases hr
    split at hr
    · rename_i he
      subst he
      injection hr with hr
      subst hr
      rw [← beq_true hb]
      exact R0.sim (m' := m') (g' := g) hx (fun j hj => by cases hj) h
    · cases hr
  | ptr id off =>
    cases v <;> simp only [P0.rd] at hr <;> try (cases hr; done)
    rename_i i o
    rcases cond_some hr with ⟨hb, _⟩ | ⟨_, hr⟩
    · simp only [Bool.and_eq_true] at hb
      rw [beq_true hb.1, beq_true hb.2] at h
      exact R0.sim (x := .ptr id off) hx (fun j hj => by cases hj; exact hs _ (.inl hp)) h
    · cases hr
  | cells l =>
    cases v <;> simp only [P0.rd] at hr <;> try (cases hr; done)
    obtain ⟨a, vs, h1, h2, h3, h4⟩ := h
    exact ⟨a, vs, h1, (hx _ h2).1, rdL_rel hx hr h3, fun j u hj => by rw [cell_eq (w := w) (w' := w') (by rw [add_block]; exact (hx _ h2).2)]; exact h4 j u hj⟩
  | obj id =>
    cases v <;> simp only [P0.rd] at hr <;> try (cases hr; done)
    rename_i i q
    cases q with
    | cons _ _ => cases hr
    | nil =>
      simp only [P0.rd] at hr
      rcases cond_some hr with ⟨hb, _⟩ | ⟨_, hr⟩
      · rw [beq_true hb] at h
        exact R0.sim (x := .ref id []) hx (fun j hj => by cases hj; exact hs _ (.inr hp)) h
      · cases hr
  | nilI =>
    cases v <;> simp only [P0.rd] at hr <;> first | exact h | (cases hr; done)
theorem P0.cap {p : P0} {v : AV} {x : p.ty} (hr : p.rd v = some x) (hv : v.isCap = true) : (p.wr x).isCap = true := by
  cases p with
  | dat e => cases v <;> first | (cases hv; done) | (cases hr; done)
  | arr e n => cases v <;> first | (cases hv; done) | (cases hr; done)
  | ptr id off => rfl
  | cells l => rfl
  | obj id => cases v <;> first | (cases hv; done) | (cases hr; done)
  | nilI => cases v <;> first | (cases hv; done) | (cases hr; done)
theorem rd0_keep (hx : Ext w ok w' ok') (hs : ∀ id, hasBox ms id = true ∨ hasObj ms id = true → Sim m g m' g id) : ∀ {l : List P0}, l.all (P0.closed ms) = true → ∀ {vs : List AV} {x : P0L l}, rd0 l vs = some x → ∀ {Vs : List Value}, All2 (RC w ok m g) vs Vs → All2 (RC w' ok' m' g) (wr0 l x) Vs
  | [], _, [], _, _, _, h => by cases h; exact .nil
  | [], _, _ :: _, _, h, _, _ => by cases h
  | _ :: _, _, [], _, h, _, _ => by cases h
  | p :: r, hp, v :: vs, x, h, Vs, hr => by
    simp only [List.all_cons, Bool.and_eq_true] at hp
    simp only [rd0] at h
    split at h
    · rename_i y hy
      split at h
      · rename_i z hz
        simp only [Option.some.injEq] at h
        subst h
        cases hr with
        | cons h1 h2 => exact .cons ⟨P0.cap hy h1.1, P0.keep hx hs hp.1 hy h1.2⟩ (rd0_keep hx hs hp.2 hz h2)
      · cases h
    · cases h
theorem P0.rd_fn {p : P0} {f : Nat} {l : List AV} {x : p.ty} (h : p.rd (.fn f l) = some x) : False := by cases p <;> cases h
theorem P0.rd_agg {p : P0} {l : List AV} {x : p.ty} (h : p.rd (.agg l) = some x) : False := by cases p <;> cases h
theorem P0.rd_tup {p : P0} {l : List AV} {x : p.ty} (h : p.rd (.tup l) = some x) : False := by cases p <;> cases h
theorem P1.keep (hx : Ext w ok w' ok') (hs : ∀ id, hasBox ms id = true ∨ hasObj ms id = true → Sim m g m' g id) {p : P1} (hp : p.closed ms = true) {v : AV} {x : p.ty} (hr : p.rd v = some x) {V : Value} (h : R1 w ok m g v V) : R1 w' ok' m' g (p.wr x) V := by
  cases p with
  | a p =>
    refine R1.of0 (P0.keep hx hs hp hr ?_)
    cases v <;> first | exact h | exact (P0.rd_fn hr).elim
  | fn f l =>
    cases v <;> simp only [P1.rd] at hr <;> try (cases hr; done)
    rcases cond_some hr with ⟨hb, hr⟩ | ⟨_, hr⟩
    · rw [beq_true hb] at h
      obtain ⟨us, h3, h4⟩ := h
      exact ⟨us, h3, rd0_keep hx hs hp hr h4⟩
    · cases hr
theorem rd1_keep (hx : Ext w ok w' ok') (hs : ∀ id, hasBox ms id = true ∨ hasObj ms id = true → Sim m g m' g id) : ∀ {l : List P1}, l.all (P1.closed ms) = true → ∀ {vs : List AV} {x : P1L l}, rd1 l vs = some x → ∀ {Vs : List Value}, All2 (R1 w ok m g) vs Vs → All2 (R1 w' ok' m' g) (wr1 l x) Vs
  | [], _, [], _, _, _, h => by cases h; exact .nil
  | [], _, _ :: _, _, h, _, _ => by cases h
  | _ :: _, _, [], _, h, _, _ => by cases h
  | p :: r, hp, v :: vs, x, h, Vs, hr => by
    simp only [List.all_cons, Bool.and_eq_true] at hp
    simp only [rd1] at h
    split at h
    · rename_i y hy
      split at h
      · rename_i z hz
        simp only [Option.some.injEq] at h
        subst h
        cases hr with
        | cons h1 h2 => exact .cons (P1.keep hx hs hp.1 hy h1) (rd1_keep hx hs hp.2 hz h2)
      · cases h
    · cases h
theorem P1.rd_agg {p : P1} {l : List AV} {x : p.ty} (h : p.rd (.agg l) = some x) : False := by
  cases p with
  | a p => exact P0.rd_agg h
  | fn f l => cases h
theorem P1.rd_tup {p : P1} {l : List AV} {x : p.ty} (h : p.rd (.tup l) = some x) : False := by
  cases p with
  | a p => exact P0.rd_tup h
  | fn f l => cases h
theorem P2.keep (hx : Ext w ok w' ok') (hs : ∀ id, hasBox ms id = true ∨ hasObj ms id = true → Sim m g m' g id) {p : P2} (hp : p.closed ms = true) {v : AV} {x : p.ty} (hr : p.rd v = some x) {V : Value} (h : R2 w ok m g v V) : R2 w' ok' m' g (p.wr x) V := by
  cases p with
  | a p =>
    refine R2.of1 (P1.keep hx hs hp hr ?_)
    cases v <;> first | exact h | exact (P1.rd_agg hr).elim
  | agg l =>
    cases v <;> simp only [P2.rd] at hr <;> try (cases hr; done)
    obtain ⟨us, h3, h4⟩ := h
    exact ⟨us, h3, rd1_keep hx hs hp hr h4⟩
theorem rd2_keep (hx : Ext w ok w' ok') (hs : ∀ id, hasBox ms id = true ∨ hasObj ms id = true → Sim m g m' g id) : ∀ {l : List P2}, l.all (P2.closed ms) = true → ∀ {vs : List AV} {x : P2L l}, rd2 l vs = some x → ∀ {Vs : List Value}, All2 (R2 w ok m g) vs Vs → All2 (R2 w' ok' m' g) (wr2 l x) Vs
  | [], _, [], _, _, _, h => by cases h; exact .nil
  | [], _, _ :: _, _, h, _, _ => by cases h
  | _ :: _, _, [], _, h, _, _ => by cases h
  | p :: r, hp, v :: vs, x, h, Vs, hr => by
    simp only [List.all_cons, Bool.and_eq_true] at hp
    simp only [rd2] at h
    split at h
    · rename_i y hy
      split at h
      · rename_i z hz
        simp only [Option.some.injEq] at h
        subst h
        cases hr with
        | cons h1 h2 => exact .cons (P2.keep hx hs hp.1 hy h1) (rd2_keep hx hs hp.2 hz h2)
      · cases h
    · cases h
theorem P2.rd_tup {p : P2} {l : List AV} {x : p.ty} (h : p.rd (.tup l) = some x) : False := by
  cases p with
  | a p => exact P1.rd_tup h
  | agg l => cases h
theorem P3.keep (hx : Ext w ok w' ok') (hs : ∀ id, hasBox ms id = true ∨ hasObj ms id = true → Sim m g m' g id) {p : P3} (hp : p.closed ms = true) {v : AV} {x : p.ty} (hr : p.rd v = some x) {V : Value} (h : R3 w ok m g v V) : R3 w' ok' m' g (p.wr x) V := by
  cases p with
  | a p =>
    refine R3.of2 (P2.keep hx hs hp hr ?_)
    cases v <;> first | exact h | exact (P2.rd_tup hr).elim
  | tup l =>
    cases v <;> simp only [P3.rd] at hr <;> try (cases hr; done)
    obtain ⟨us, h3, h4⟩ := h
    exact ⟨us, h3, rd2_keep hx hs hp hr h4⟩
/-- Memory, read. -/
theorem MPt.rd_box {l : List P1} {M : ME} {y : P1L l} (h : (MPt.box l).rd M = some y) : ∃ vs, M = .box vs ∧ rd1 l vs = some y := by
  cases M <;> simp only [MPt.rd] at h <;> first | exact ⟨_, rfl, h⟩ | cases h
theorem MPt.rd_arr {e : ET} {n : Nat} {M : ME} {y : List e.ty} (h : (MPt.arr e n).rd M = some y) : M = .arr e n y := by
  cases M <;> simp only [MPt.rd] at h <;> try (cases h; done)
  rcases cond_some h with ⟨hb, h⟩ | ⟨_, h⟩
  · split at h
    · rename_i he
      subst he
      injection h with h
      subst h
      rw [beq_true hb]
    · cases h
  · cases h
theorem MPt.rd_obj {T dp : Nat} {e : ET} {M : ME} {y : List e.ty} (h : (MPt.obj T e dp).rd M = some y) : M = .obj T e dp y := by
  cases M <;> simp only [MPt.rd] at h <;> try (cases h; done)
  rcases cond_some h with ⟨hb, h⟩ | ⟨_, h⟩
  · simp only [Bool.and_eq_true] at hb
    split at h
    · rename_i he
      subst he
      injection h with h
      subst h
      rw [beq_true hb.1, beq_true hb.2]
    · cases h
  · cases h
theorem MPt.blks_eq {p : MPt} {M : ME} {y : p.ty} (h : p.rd M = some y) (e : GE) : blks (p.wr y) e = blks M e := by
  cases p with
  | box l => obtain ⟨vs, rfl, _⟩ := MPt.rd_box h; rfl
  | arr e n => rw [MPt.rd_arr h]; rfl
  | obj T e dp => rw [MPt.rd_obj h]; rfl
theorem MPt.km {p : MPt} {M : ME} {y : p.ty} (h : p.rd M = some y) : KM M (p.wr y) := by
  cases p with
  | box l => obtain ⟨vs, rfl, _⟩ := MPt.rd_box h; exact .inr ⟨_, rfl⟩
  | arr e n => rw [MPt.rd_arr h]; exact .refl _
  | obj T e dp => rw [MPt.rd_obj h]; exact .refl _
theorem MPt.sim {p : MPt} {id : Nat} {y : p.ty} (h : p.rd (m id) = some y) (hm : m' id = p.wr y) : Sim m g m' g id := by
  cases p with
  | box l => obtain ⟨vs, h1, _⟩ := MPt.rd_box h; exact Sim.ofBox h1 hm rfl
  | arr e n => exact Sim.of_eq (by rw [hm, MPt.rd_arr h]; rfl) rfl
  | obj T e dp => exact Sim.of_eq (by rw [hm, MPt.rd_obj h]; rfl) rfl
theorem MPt.live {p : MPt} {M : ME} {y : p.ty} (h : p.rd M = some y) : M ≠ .none := by intro e; subst e; cases p <;> cases h
theorem MPt.keep (hx : Ext w ok w ok') (hs : ∀ id, hasBox ms id = true ∨ hasObj ms id = true → Sim m g m' g id) {p : MPt} (hp : p.closed ms = true) {M : ME} {y : p.ty} (h : p.rd M = some y) {e : GE} (hM : MR w ok m g M e) : MR w ok' m' g (p.wr y) e := by
  cases p with
  | box l =>
    obtain ⟨vs, rfl, h1⟩ := MPt.rd_box h
    obtain ⟨us, T, h2, h3⟩ := hM
    exact ⟨us, T, h2, rd1_keep hx hs hp h1 h3⟩
  | arr e n =>
    have := MPt.rd_arr h
    subst this
    obtain ⟨h0, us, T, h2, h3⟩ := hM
    exact ⟨h0, us, T, h2, h3.mono fun _ _ => Rd.mono hx⟩
  | obj T e dp =>
    have := MPt.rd_obj h
    subst this
    exact Own.mono hx (fun _ _ => rfl) hM
theorem rdM_eq : ∀ {l : List (Nat × MPt)} {m : Nat → ME} {x : MsL l}, rdM l m = some x → ∀ id, (∃ p ∈ l, p.1 = id ∧ ∃ y, p.2.rd (m id) = some y ∧ wrM l x id = p.2.wr y ∧ (hasBox l id = true ∨ hasObj l id = true)) ∨ (wrM l x id = .none ∧ hasBox l id = false ∧ hasObj l id = false)
  | [], m, x, h, id => .inr ⟨rfl, rfl, rfl⟩
  | p :: r, m, x, h, id => by
    simp only [rdM] at h
    split at h
    · rename_i y hy
      split at h
      · rename_i z hz
        simp only [Option.some.injEq] at h
        subst h
        by_cases e : id = p.1
        · subst e
          refine .inl ⟨p, List.mem_cons_self .., rfl, y, hy, by simp only [wrM, upd, beq_self, cond_true], ?_⟩
          obtain ⟨i, q⟩ := p
          cases q <;> simp [hasBox, hasObj, beq_self]
        · have e1 : wrM (p :: r) (y, z) id = wrM r z id := by simp only [wrM, upd, beq_ne e, cond_false]
          have e2 : hasBox (p :: r) id = hasBox r id := by
            obtain ⟨i, q⟩ := p
            cases q <;> simp [hasBox, beq_ne (Ne.symm e)]
          have e3 : hasObj (p :: r) id = hasObj r id := by
            obtain ⟨i, q⟩ := p
            cases q <;> simp [hasObj, beq_ne (Ne.symm e)]
          rw [e1, e2, e3]
          rcases rdM_eq hz id with ⟨q, h1, h2⟩ | h1
          · exact .inl ⟨q, List.mem_cons_of_mem _ h1, h2⟩
          · exact .inr h1
      · cases h
    · cases h
theorem rdM_sim {l : List (Nat × MPt)} {x : MsL l} (h : rdM l m = some x) : ∀ id, hasBox l id = true ∨ hasObj l id = true → Sim m g (wrM l x) g id := fun id hi => by
  rcases rdM_eq h id with ⟨p, _, _, y, h1, h2, _⟩ | ⟨_, h1, h2⟩
  · exact MPt.sim h1 h2
  · rw [h1, h2] at hi; simp at hi
theorem rdS_eq : ∀ {l : List (Nat × P3)} {m : Nat → AV} {x : TsL l}, rdS l m = some x → ∀ t, (∃ p ∈ l, p.1 = t ∧ ∃ y, p.2.rd (m t) = some y ∧ wrS l x t = p.2.wr y) ∨ wrS l x t = .undef
  | [], m, x, h, t => .inr rfl
  | p :: r, m, x, h, t => by
    simp only [rdS] at h
    split at h
    · rename_i y hy
      split at h
      · rename_i z hz
        simp only [Option.some.injEq] at h
        subst h
        by_cases e : t = p.1
        · subst e
          exact .inl ⟨p, List.mem_cons_self .., rfl, y, hy, by simp only [wrS, upd, beq_self, cond_true]⟩
        · have e1 : wrS (p :: r) (y, z) t = wrS r z t := by simp only [wrS, upd, beq_ne e, cond_false]
          rw [e1]
          rcases rdS_eq hz t with ⟨q, h1, h2⟩ | h1
          · exact .inl ⟨q, List.mem_cons_of_mem _ h1, h2⟩
          · exact .inr h1
      · cases h
    · cases h
end

/-! ### a state out of what is kept of it -/
/-- A state's names are shuffled. -/
def Fits (nio : Nat) (S S' : St) : Prop := ∀ (w0 : World) (io : Nat → Prop) (n : Nat) (g : GM) (a : Act) (w : World), SR w0 io n S g a w → ∃ g', SR w0 io n S' g' a w ∧ Kept nio S g S' g'
section
variable {nio : Nat}
theorem Fits.refl (S : St) : Fits nio S S := fun _ _ _ g _ _ h => ⟨g, h, .refl _ _⟩
theorem Fits.trans {S S' S2 : St} (h : Fits nio S S') (k : Fits nio S' S2) : Fits nio S S2 := fun w0 io n g a w hs => by
  obtain ⟨g', h1, h2⟩ := h w0 io n g a w hs
  obtain ⟨g2, h3, h4⟩ := k w0 io n g' a w h1
  exact ⟨g2, h3, h2.trans h4⟩
theorem fit0_ok (S : St) (p : P0) (v : AV) : Fits nio S (fit0 nio S p v) := by
  unfold fit0
  split
  · exact fun w0 io n g a w h => ⟨g, h.freeze _, .freeze ..⟩
  · rename_i k id
    cases hb : Nat.ble nio k with
    | false => exact .refl _
    | true => exact fun w0 io n g a w h => h.ren id k (Nat.le_of_ble_eq_true hb)
  · exact .refl _
theorem fit1_ok (S : St) (p : P1) (v : AV) : Fits nio S (fit1 nio S p v) := by
  cases p with
  | a p => exact fit0_ok _ _ _
  | fn f l => exact .refl _
theorem fit1L_ok : ∀ (l : List P1) (vs : List AV) (S : St), Fits nio S (fit1L nio S l vs)
  | [], _, S => .refl _
  | _ :: _, [], S => .refl _
  | p :: l, v :: vs, S => (fit1_ok S p v).trans (fit1L_ok l vs _)
theorem fit2_ok (S : St) (p : P2) (v : AV) : Fits nio S (fit2 nio S p v) := by
  unfold fit2
  split
  · exact fit1_ok _ _ _
  · exact fit1L_ok _ _ _
  · exact .refl _
theorem fit2L_ok : ∀ (l : List P2) (vs : List AV) (S : St), Fits nio S (fit2L nio S l vs)
  | [], _, S => .refl _
  | _ :: _, [], S => .refl _
  | p :: l, v :: vs, S => (fit2_ok S p v).trans (fit2L_ok l vs _)
theorem fit3_ok (S : St) (p : P3) (v : AV) : Fits nio S (fit3 nio S p v) := by
  unfold fit3
  split
  · exact fit2_ok _ _ _
  · exact fit2L_ok _ _ _
  · exact .refl _
theorem fitS_ok : ∀ (l : List (Nat × P3)) (S : St), Fits nio S (fitS nio S l)
  | [], S => .refl _
  | p :: l, S => (fit3_ok S p.2 _).trans (fitS_ok l _)
theorem fitM_ok : ∀ (l : List (Nat × MPt)) (S : St), Fits nio S (fitM nio S l)
  | [], S => .refl _
  | (id, .box l) :: r, S => by
    unfold fitM
    refine Fits.trans ?_ (fitM_ok r _)
    split
    · exact fit1L_ok _ _ _
    · exact .refl _
  | (id, .arr e n) :: r, S => fitM_ok r S
  | (id, .obj T e dp) :: r, S => fitM_ok r S
theorem fit_ok (F : Form) (S : St) : Fits nio S (F.fit nio S) := (fitS_ok F.ts S).trans (fitM_ok F.ms _)
end
section
variable {P : Program} {E : Env} {w0 : World} {io : Nat → Prop} {n : Nat} {S : St} {g : GM} {a : Act} {w : World}
theorem Form.rd_ok {F : Form} (hF : F.closed = true) {x : F.X} (hr : F.rd S = some x) (h : SR w0 io n S g a w) : SR w0 io n (F.st x) g a w ∧ ∀ nio, Kept nio S g (F.st x) g := by
  simp only [Form.closed, Bool.and_eq_true, List.all_eq_true] at hF
  unfold Form.rd at hr
  split at hr
  · rename_i y hy
    split at hr
    · rename_i z hz
      simp only [Option.some.injEq] at hr
      subst hr
      have hM := rdM_eq hz
      have hS := rdS_eq hy
      have hsim := rdM_sim (g := g) hz
      have hb : ∀ id k, k ∈ blks ((F.st (y, z)).m id) (g id) → k ∈ blks (S.m id) (g id) := fun id k hk => by
        have hk : k ∈ blks (wrM F.ms z id) (g id) := hk
        rcases hM id with ⟨p, _, _, u, h1, h2, _⟩ | ⟨h1, _⟩
        · rw [h2, MPt.blks_eq h1] at hk; exact hk
        · rw [h1] at hk; cases hk
      have hx : Ext w (okOf w S.m g) w (okOf w (F.st (y, z)).m g) := fun k hk => ⟨⟨hk.1, hk.2.1, fun id hi => hk.2.2 id (hb id k hi)⟩, rfl⟩
      refine ⟨⟨h.os, h.tape, h.output, h.size, h.same, fun id k hk => h.own id k (hb id k hk), fun id id' k hk hk' => h.disj id id' k (hb id k hk) (hb id' k hk'), fun id => ?_, h.n, h.defers, h.ex, fun id k hk => h.notex id k (hb id k hk), fun t v ht => ?_⟩, fun nio => ⟨fun _ h => h, fun i _ => ⟨fun _ => rfl, ?_⟩⟩⟩
      · show MR w _ (F.st (y, z)).m g (wrM F.ms z id) (g id)
        rcases hM id with ⟨p, hp, _, u, h1, h2, _⟩ | ⟨h1, _⟩
        · rw [h2]; exact MPt.keep hx hsim (hF.2 p hp) h1 (h.mem id)
        · rw [h1]; trivial
      · show R3 w _ (F.st (y, z)).m g (wrS F.ts y t) v
        rcases hS t with ⟨p, hp, _, u, h1, h2⟩ | h1
        · rw [h2]; exact P3.keep hx hsim (hF.1 p hp) h1 (h.tmps t v ht)
        · rw [h1]; trivial
      · show KM (S.m i) (wrM F.ms z i)
        rcases hM i with ⟨p, hp, _, u, h1, h2, _⟩ | ⟨h1, _⟩
        · rw [h2]; exact MPt.km h1
        · rw [h1]; exact .inl rfl
    · cases hr
  · cases hr
theorem Form.read_ok {F : Form} {nio : Nat} (hF : F.closed = true) {x : F.X} (hr : F.read nio S = some x) (h : SR w0 io n S g a w) : ∃ g', SR w0 io n (F.st x) g' a w ∧ Kept nio S g (F.st x) g' := by
  obtain ⟨g', h1, h2⟩ := fit_ok F S w0 io n g a w h
  obtain ⟨h3, h4⟩ := Form.rd_ok hF hr h1
  exact ⟨g', h3, h2.trans (h4 nio)⟩

/-! ### loops -/
def iterN {X A : Type} (B : X → Option (X ⊕ A)) : Nat → X → Option A
  | 0, _ => none
  | n + 1, x => match B x with
    | some (.inl y) => iterN B n y
    | some (.inr a) => some a
    | none => none
open Classical in
/-- What a loop comes to, if it comes to anything. -/
noncomputable def Loop {X A : Type} (B : X → Option (X ⊕ A)) (x : X) : Option A := if h : ∃ n a, iterN B n x = some a then iterN B h.choose x else none
theorem Loop_some {X A : Type} {B : X → Option (X ⊕ A)} {x : X} {a : A} (h : Loop B x = some a) : ∃ n, iterN B n x = some a := by
  unfold Loop at h
  split at h
  · exact ⟨_, h⟩
  · cases h
def allClosed (l : List (Nat × Form)) : Bool := l.all fun p => p.2.closed
theorem rdO_ok {ρ : Type} {nio : Nat} {K : Nat → St → Option ρ} : ∀ {l : List (Nat × Form)} {e : Nat} {S : St} {y : Outs l}, allClosed l = true → rdO nio l e S = some y → SR w0 io n S g a w →
    ∃ S' g', outK l y K = K e S' ∧ SR w0 io n S' g' a w ∧ Kept nio S g S' g'
  | [], e, S, y, _, h, _ => by cases h
  | [p], e, S, y, hcl, h, hs => by
    simp only [rdO] at h
    rcases cond_some h with ⟨hb, h⟩ | ⟨_, h⟩
    · simp only [allClosed, List.all_cons, List.all_nil, Bool.and_true] at hcl
      obtain ⟨g', h1, h2⟩ := Form.read_ok hcl h hs
      exact ⟨_, g', by simp only [outK]; rw [beq_true hb], h1, h2⟩
    · cases h
  | p :: q :: r, e, S, y, hcl, h, hs => by
    simp only [allClosed, List.all_cons, Bool.and_eq_true] at hcl
    simp only [rdO] at h
    split at h
    · rename_i x hx
      simp only [Option.some.injEq] at h
      subst h
      rcases cond_some hx with ⟨hb, hx⟩ | ⟨_, hx⟩
      · obtain ⟨g', h1, h2⟩ := Form.read_ok hcl.1 hx hs
        exact ⟨_, g', by simp only [outK]; rw [beq_true hb], h1, h2⟩
      · cases hx
    · split at h
      · rename_i z hz
        simp only [Option.some.injEq] at h
        subst h
        obtain ⟨S', g', h1, h2, h3⟩ := rdO_ok (K := K) (l := q :: r) (by simp only [allClosed, List.all_cons, Bool.and_eq_true]; exact hcl.2) hz hs
        exact ⟨S', g', by simp only [outK]; exact h1, h2, h3⟩
      · cases h

/-- A loop's meaning, as its rounds have it. -/
noncomputable def loopSpec (nio : Nat) (F : Form) (outs : List (Nat × Form)) (B : F.X → Option (F.X ⊕ Outs outs)) : LoopSpec := fun S => match F.read nio S with
  | some x => some ⟨outs, Loop B x⟩
  | none => none
theorem loop_ok (hT : ∀ t, (E.ty t).known = true → TyOK P t (E.ty t)) (hc : ∀ f, CallOK P f (E.calls f)) (hm : P.follows .mixedOrders = true) {c : Code} {F : Form} {outs : List (Nat × Form)} {B : F.X → Option (F.X ⊕ Outs outs)}
    (hl : E.loops (firstRegion c) = loopSpec E.nio F outs B) (hF : F.closed = true) (hO : allClosed outs = true) (hin : AllLoops (LoopOK P E) c) (hB : ∀ x, round E c F outs x = B x) : LoopOK P E c := by
  intro w0 io S g a w l b Q ρ K r hS hb h hk hK
  rw [hl] at hS
  unfold loopSpec at hS
  split at hS
  rotate_left
  · cases hS
  rename_i x hx
  injection hS with hS
  subst hS
  obtain ⟨n, hn⟩ := Loop_some hb
  obtain ⟨g0, h1, h2⟩ := Form.read_ok hF hx h
  refine wp_loop_rounds n ?_
  have key : ∀ (n : Nat) (x : F.X) (g' : GM) (a : Act) (w : World), iterN B n x = some b → SR w0 io E.ntmps (F.st x) g' a w → Kept E.nio S g (F.st x) g' → Code.rounds P c Q n a w := by
    intro n
    induction n with
    | zero => intro x g' a w hn; cases hn
    | succ n ih =>
      intro x g' a w hn hs hkp
      rw [rounds_succ]
      simp only [iterN] at hn
      have hrun := hB x
      unfold round at hrun
      split at hn
      · rename_i y hy
        rw [hy] at hrun
        refine run_ok hT hc hm c hin hs hrun fun e S' g2 a' w' h3 h4 h5 => ?_
        match e with
        | 0 =>
          simp only at h3
          split at h3
          · rename_i z hz
            injection h3 with h3; injection h3 with h3
            subst h3
            obtain ⟨g3, h6, h7⟩ := Form.read_ok hF hz h4
            exact ih z g3 a' w' hn h6 (hkp.trans (h5.trans h7))
          · cases h3
        | e + 1 =>
          simp only at h3
          split at h3
          · injection h3 with h3; cases h3
          · cases h3
      · rename_i y hy
        rw [hy] at hrun
        injection hn with hn
        subst hn
        refine run_ok hT hc hm c hin hs hrun fun e S' g2 a' w' h3 h4 h5 => ?_
        match e with
        | 0 =>
          simp only at h3
          split at h3
          · injection h3 with h3; cases h3
          · cases h3
        | e + 1 =>
          simp only at h3
          split at h3
          · rename_i z hz
            injection h3 with h3; injection h3 with h3
            subst h3
            obtain ⟨S2, g3, h6, h7, h8⟩ := rdO_ok (K := K) hO hz h4
            have h9 := hK (e + 1) S2 g3 a' w' (h6 ▸ hk) h7 (hkp.trans (h5.trans h8))
            match e with
            | 0 => exact h9
            | e + 1 => exact h9
          · cases h3
      · cases hn
  exact key n x g0 a w hn h1 h2
end
end Go.Proofs.Ytckieogkaodkdaa.V
