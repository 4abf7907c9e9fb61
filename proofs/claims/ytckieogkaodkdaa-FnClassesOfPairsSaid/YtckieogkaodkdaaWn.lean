/- Regions. -/
import Derived.Test.YtckieogkaodkdaaWm
import Derived.Orders
import Derived.LoopN
set_option linter.unusedVariables false
set_option linter.unusedSimpArgs false
namespace Go.Proofs.Ytckieogkaodkdaa.V
open Go Go.RowKit

section
variable {P : Program} {E : Env} {w0 : World} {io : Nat → Prop} {S : St} {g : GM} {a : Act} {w : World}
/-- Goes well from here: some state out of which the rest goes well. -/
def Next {ρ : Type} (E : Env) (w0 : World) (io : Nat → Prop) (S : St) (g : GM) (κ : St → Option ρ) (r : ρ) (K : Act → World → Prop) : Prop :=
  ∀ S' g' a' w', κ S' = some r → SR w0 io E.ntmps S' g' a' w' → Kept E.nio S g S' g' → K a' w'

theorem set_same {t : Nat} {v : AV} (h : S.t t = v) : S.set t v = S := by
  unfold St.set
  have : upd S.t t v = S.t := by
    funext i
    simp only [upd]
    by_cases e : i = t
    · subst e; rw [beq_self]; exact h.symm
    · rw [beq_ne e]; rfl
  rw [this]
theorem ev_tmp {t ty : Nat} {v : AV} (h : S.ev E ty (.tmp t) = v) (hv : v ≠ .undef) : t < E.ntmps ∧ S.t t = v := by
  simp only [St.ev] at h
  rcases hb : Nat.blt t E.ntmps with _ | _
  · rw [hb] at h; exact absurd h.symm hv
  · rw [hb] at h; exact ⟨Nat.le_of_ble_eq_true hb, h⟩
theorem tmp_get (h : SR w0 io E.ntmps S g a w) {t : Nat} (ht : t < E.ntmps) : ∃ v, a.tmps[t]? = some v ∧ R3 w (okOf w S.m g) S.m g (S.t t) v := by
  have hlt : t < a.tmps.size := by rw [h.n]; exact ht
  exact ⟨a.tmps[t], Array.getElem?_eq_getElem hlt, h.tmps t _ (Array.getElem?_eq_getElem hlt)⟩
theorem guard_bool (h : SR w0 io E.ntmps S g a w) {ops : Array Oper} {j t : Nat} (hj : gslot ops.toList j = some t) {b : Bool} (hv : S.ev E 0 (.tmp t) = .d .bool b) : yielded ops a.tmps j = some b ∧ S.set t (.d .bool b) = S := by
  obtain ⟨ht, hS⟩ := ev_tmp hv (by simp)
  obtain ⟨v, hv, hr⟩ := tmp_get h ht
  rw [hS] at hr
  have hg : (ops[j]?).bind (·.dst) = some t := by simpa [gslot] using hj
  refine ⟨?_, set_same hS⟩
  simp only [yielded, hg, Option.bind_some, hv, hr.bool]
theorem guard_skip (h : SR w0 io E.ntmps S g a w) {ops : Array Oper} {j t : Nat} (hj : gslot ops.toList j = some t) (hv : S.ev E 0 (.tmp t) = .skip) : yielded ops a.tmps j = none := by
  obtain ⟨ht, hS⟩ := ev_tmp hv (by simp)
  obtain ⟨v, hv, hr⟩ := tmp_get h ht
  rw [hS] at hr
  have hr : v = undef := hr
  have hg : (ops[j]?).bind (·.dst) = some t := by simpa [gslot] using hj
  simp only [yielded, hg, Option.bind_some, hv, hr, undef]
theorem skip_put (h : SR w0 io E.ntmps S g a w) (dst : Option Nat) : SR w0 io E.ntmps (setDst S dst .skip) g (a.put dst undef) w ∧ Kept E.nio S g (setDst S dst .skip) g := by
  cases dst with
  | none => exact ⟨h, .refl _ _⟩
  | some d => exact ⟨h.put d .skip undef rfl, .of_m rfl⟩

/-- One operation of a region, its guard looked at. -/
theorem step_ok {ρ : Type} {κ : St → Option ρ} {r : ρ} (hT : ∀ t, (E.ty t).known = true → TyOK P t (E.ty t)) (hc : ∀ f, CallOK P f (E.calls f)) (h : SR w0 io E.ntmps S g a w) {ops : Array Oper} {o : Oper}
    (hk : stepK E ops.toList o S κ = some r) {K : Act → World → Prop} {Q : Exit → Act → World → Prop} (hK : Next E w0 io S g κ r K) :
    if Region.wanted o (yielded ops a.tmps) then o.wp P a w K Q ∨ (o.asks P a w ∧ LetsOut Q) else K (a.put o.dst undef) w := by
  unfold stepK at hk
  rcases cond_some hk with ⟨hb, hk⟩ | ⟨_, hk⟩
  rotate_left
  · cases hk
  simp only [Bool.and_eq_true] at hb
  have does : opK E o S κ = some r → o.wp P a w K Q := fun hk => by
    obtain ⟨F, hF, hk⟩ := effK_some hk
    exact eff_ok hT hc h hb.2 hF K Q fun g' a' w' h1 h2 => hK _ g' a' w' hk h1 h2
  have skips : κ (setDst S o.dst .skip) = some r → K (a.put o.dst undef) w := fun hk => hK _ g _ _ hk (skip_put h _).1 (skip_put h _).2
  split at hk
  · rename_i hg
    simp only [Region.wanted, hg, if_true]
    exact .inl (does hk)
  · rename_i j want hg
    split at hk
    · rename_i t ht
      split at hk
      · rename_i b hv
        obtain ⟨hy, hs⟩ := guard_bool h ht hv
        simp only [Region.wanted, hg, hy]
        cases want <;> cases b <;> simp only [cond_true, cond_false, hs] at hk
        · exact .inl (does hk)
        · exact skips hk
        · exact skips hk
        · exact .inl (does hk)
      · rename_i hv
        have hy := guard_skip h ht hv
        simp only [Region.wanted, hg, hy]
        exact skips hk
      · cases hk
    · cases hk
theorem ops_ok {ρ : Type} {κ : St → Option ρ} {r : ρ} (hT : ∀ t, (E.ty t).known = true → TyOK P t (E.ty t)) (hc : ∀ f, CallOK P f (E.calls f)) {ops : Array Oper} {Q : Exit → Act → World → Prop} :
    ∀ (rest : List Oper) {S : St} {g : GM} {a : Act} {w : World}, SR w0 io E.ntmps S g a w → opsK E ops.toList rest S κ = some r → Next E w0 io S g κ r (Q .normal) → wpList P ops Q rest a w := by
  intro rest
  induction rest with
  | nil => intro S g a w h hk hK; exact hK S g a w hk h (.refl _ _)
  | cons o rest ih =>
    intro S g a w h hk hK
    exact step_ok (K := wpList P ops Q rest) hT hc h hk fun S' g' a' w' h1 h2 h3 => ih h2 h1 fun S2 g2 a2 w2 h4 h5 h6 => hK S2 g2 a2 w2 h4 h5 (h3.trans h6)

/-! ### a region whose order is left open -/
/-- What one operation that only yields a value yields. -/
def Fact (E : Env) (ops : List Oper) (S : St) (o : Oper) (x : AV) : Prop :=
  dstOk E o = true ∧ known E (opTys E o.op) = true ∧ match o.guard with
    | none => valK E (S.ev E) S.m o.type o.op some = some x
    | some (j, want) => ∃ t, gslot ops j = some t ∧ ((∃ b, S.ev E 0 (.tmp t) = .d .bool b ∧ ((b = want ∧ valK E (S.ev E) S.m o.type o.op some = some x) ∨ (b ≠ want ∧ x = .skip))) ∨ (S.ev E 0 (.tmp t) = .skip ∧ x = .skip))
theorem stepV_fact {ρ : Type} {κ : AV → St → Option ρ} {r : ρ} {ops : List Oper} {o : Oper} (h : stepV E ops o S κ = some r) : ∃ x, Fact E ops S o x ∧ κ x (setDst S o.dst x) = some r := by
  unfold stepV at h
  rcases cond_some h with ⟨hb, h⟩ | ⟨_, h⟩
  rotate_left
  · cases h
  simp only [Bool.and_eq_true] at hb
  unfold Fact
  split at h
  · rename_i hg
    obtain ⟨x, h1, h2⟩ := valK_some h
    refine ⟨x, ⟨hb.1, hb.2, ?_⟩, h2⟩
    rw [hg]; exact h1
  · rename_i j want hg
    split at h
    · rename_i t ht
      split at h
      · rename_i b hv
        obtain ⟨_, hS⟩ := ev_tmp hv (by simp)
        have hs := set_same hS
        cases want <;> cases b <;> simp only [cond_true, cond_false, hs] at h
        · obtain ⟨x, h1, h2⟩ := valK_some h
          exact ⟨x, ⟨hb.1, hb.2, by rw [hg]; exact ⟨t, ht, .inl ⟨_, hv, .inl ⟨rfl, h1⟩⟩⟩⟩, h2⟩
        · exact ⟨.skip, ⟨hb.1, hb.2, by rw [hg]; exact ⟨t, ht, .inl ⟨_, hv, .inr ⟨by simp, rfl⟩⟩⟩⟩, h⟩
        · exact ⟨.skip, ⟨hb.1, hb.2, by rw [hg]; exact ⟨t, ht, .inl ⟨_, hv, .inr ⟨by simp, rfl⟩⟩⟩⟩, h⟩
        · obtain ⟨x, h1, h2⟩ := valK_some h
          exact ⟨x, ⟨hb.1, hb.2, by rw [hg]; exact ⟨t, ht, .inl ⟨_, hv, .inl ⟨rfl, h1⟩⟩⟩⟩, h2⟩
      · rename_i hv
        exact ⟨.skip, ⟨hb.1, hb.2, by rw [hg]; exact ⟨t, ht, .inr ⟨hv, rfl⟩⟩⟩, h⟩
      · cases h
    · cases h
theorem fact_ok (hT : ∀ t, (E.ty t).known = true → TyOK P t (E.ty t)) (hc : ∀ f, CallOK P f (E.calls f)) (h : SR w0 io E.ntmps S g a w) {ops : Array Oper} {o : Oper} {x : AV}
    (hf : Fact E ops.toList S o x) {K : Act → World → Prop} {Q : Exit → Act → World → Prop} (hK : ∀ V w', More w w' → R3 w' (okOf w' S.m g) S.m g x V → K (a.put o.dst V) w') :
    if Region.wanted o (yielded ops a.tmps) then o.wp P a w K Q ∨ (o.asks P a w ∧ LetsOut Q) else K (a.put o.dst undef) w := by
  obtain ⟨_, hkn, hf⟩ := hf
  split at hf
  · rename_i hg
    simp only [Region.wanted, hg, if_true]
    exact .inl (val_ok hT hc h hkn hf K Q hK)
  · rename_i j want hg
    obtain ⟨t, ht, ⟨b, hv, hb⟩ | ⟨hv, rfl⟩⟩ := hf
    · obtain ⟨hy, _⟩ := guard_bool h ht hv
      simp only [Region.wanted, hg, hy]
      rcases hb with ⟨rfl, hf⟩ | ⟨hne, rfl⟩
      · simp only [beq_self_eq_true, if_true]
        exact .inl (val_ok hT hc h hkn hf K Q hK)
      · have : (some b == some want) = false := by simpa using hne
        rw [this]
        exact hK undef w (More.refl w) rfl
    · have hy := guard_skip h ht hv
      simp only [Region.wanted, hg, hy]
      exact hK undef w (More.refl w) rfl
/-- What one operation that does something comes to. -/
def EFact (E : Env) (ops : List Oper) (S : St) (o : Oper) (F : Option Eff) : Prop :=
  dstOk E o = true ∧ known E (opTys E o.op) = true ∧ match o.guard with
    | none => ∃ F', F = some F' ∧ effK E (S.ev E) S.m o some = some F'
    | some (j, want) => ∃ t, gslot ops j = some t ∧ ((∃ b, S.ev E 0 (.tmp t) = .d .bool b ∧ ((b = want ∧ ∃ F', F = some F' ∧ effK E (S.ev E) S.m o some = some F') ∨ (b ≠ want ∧ F = none))) ∨ (S.ev E 0 (.tmp t) = .skip ∧ F = none))
def appE (S : St) (o : Oper) : Option Eff → St
  | none => setDst S o.dst .skip
  | some F => S.app o.dst F
theorem doingK_fact {ρ : Type} {κ : Option Eff → St → Option ρ} {r : ρ} {ops : List Oper} {o : Oper} (h : doingK E ops o S κ = some r) : ∃ F, EFact E ops S o F ∧ κ F (appE S o F) = some r := by
  unfold doingK at h
  rcases cond_some h with ⟨hb, h⟩ | ⟨_, h⟩
  rotate_left
  · cases h
  simp only [Bool.and_eq_true] at hb
  unfold EFact
  split at h
  · rename_i hg
    obtain ⟨F, hF, h⟩ := effK_some h
    exact ⟨some F, ⟨hb.1, hb.2, by rw [hg]; exact ⟨F, rfl, hF⟩⟩, h⟩
  · rename_i j want hg
    split at h
    · rename_i t ht
      split at h
      · rename_i b hv
        have hs : S.set t (.d .bool b) = S := set_same (ev_tmp hv (by simp)).2
        cases want <;> cases b <;> simp only [cond_true, cond_false, hs] at h
        · obtain ⟨F, hF, h⟩ := effK_some h
          exact ⟨some F, ⟨hb.1, hb.2, by rw [hg]; exact ⟨t, ht, .inl ⟨_, hv, .inl ⟨rfl, F, rfl, hF⟩⟩⟩⟩, h⟩
        · exact ⟨none, ⟨hb.1, hb.2, by rw [hg]; exact ⟨t, ht, .inl ⟨_, hv, .inr ⟨by simp, rfl⟩⟩⟩⟩, h⟩
        · exact ⟨none, ⟨hb.1, hb.2, by rw [hg]; exact ⟨t, ht, .inl ⟨_, hv, .inr ⟨by simp, rfl⟩⟩⟩⟩, h⟩
        · obtain ⟨F, hF, h⟩ := effK_some h
          exact ⟨some F, ⟨hb.1, hb.2, by rw [hg]; exact ⟨t, ht, .inl ⟨_, hv, .inl ⟨rfl, F, rfl, hF⟩⟩⟩⟩, h⟩
      · rename_i hv
        exact ⟨none, ⟨hb.1, hb.2, by rw [hg]; exact ⟨t, ht, .inr ⟨hv, rfl⟩⟩⟩, h⟩
      · cases h
    · cases h
theorem efact_ok (hT : ∀ t, (E.ty t).known = true → TyOK P t (E.ty t)) (hc : ∀ f, CallOK P f (E.calls f)) (h : SR w0 io E.ntmps S g a w) {ops : Array Oper} {o : Oper} {F : Option Eff}
    (hf : EFact E ops.toList S o F) {K : Act → World → Prop} {Q : Exit → Act → World → Prop} (hK : ∀ g' a' w', SR w0 io E.ntmps (appE S o F) g' a' w' → Kept E.nio S g (appE S o F) g' → K a' w') :
    if Region.wanted o (yielded ops a.tmps) then o.wp P a w K Q ∨ (o.asks P a w ∧ LetsOut Q) else K (a.put o.dst undef) w := by
  obtain ⟨_, hkn, hf⟩ := hf
  have skips : F = none → K (a.put o.dst undef) w := fun e => by
    subst e
    exact hK g _ _ (skip_put h _).1 (skip_put h _).2
  have does : (∃ F', F = some F' ∧ effK E (S.ev E) S.m o some = some F') → o.wp P a w K Q := fun ⟨F', e, hF⟩ => by
    subst e
    exact eff_ok hT hc h hkn hF K Q hK
  split at hf
  · rename_i hg
    simp only [Region.wanted, hg, if_true]
    exact .inl (does hf)
  · rename_i j want hg
    obtain ⟨t, ht, ⟨b, hv, hb⟩ | ⟨hv, hf⟩⟩ := hf
    · obtain ⟨hy, _⟩ := guard_bool h ht hv
      simp only [Region.wanted, hg, hy]
      rcases hb with ⟨rfl, hf⟩ | ⟨hne, hf⟩
      · simp only [beq_self_eq_true, if_true]
        exact .inl (does hf)
      · have : (some b == some want) = false := by simpa using hne
        rw [this]
        exact skips hf
    · have hy := guard_skip h ht hv
      simp only [Region.wanted, hg, hy]
      exact skips hf
theorem ops_in {ops : List Oper} {o : Oper} {t : Nat} (h : Operand.tmp t ∈ o.op.operands.toList) : t ∈ tmpsOf ops o := by
  simp only [tmpsOf, List.mem_append, List.mem_filterMap]; exact .inl ⟨_, h, rfl⟩
theorem guard_in {ops : List Oper} {o : Oper} {t j : Nat} {want : Bool} (hg : o.guard = some (j, want)) (ht : gslot ops j = some t) : t ∈ tmpsOf ops o := by
  simp only [tmpsOf, hg, List.mem_append, ht]; simp
/-- What it comes to depends on what the operation looks at, and on memory. -/
theorem EFact.congr {ops : List Oper} {S' : St} {o : Oper} {F : Option Eff} (hf : EFact E ops S o F) (hm : S'.m = S.m) (ht : ∀ t ∈ tmpsOf ops o, S'.t t = S.t t) : EFact E ops S' o F := by
  obtain ⟨h1, h2, h3⟩ := hf
  have hev : ∀ ty t, t ∈ tmpsOf ops o → S'.ev E ty (.tmp t) = S.ev E ty (.tmp t) := fun ty t h => by simp only [St.ev, ht t h]
  have hops : ∀ T y, y ∈ o.op.operands.toList → S'.ev E T y = S.ev E T y := fun T y hy => by
    cases y with
    | tmp t => exact hev T t (ops_in hy)
    | const v => rfl
    | global v => rfl
    | func f => rfl
  have heff : effK E (S'.ev E) S'.m o some = effK E (S.ev E) S.m o some := by rw [hm]; exact effK_congr E _ _ hops
  refine ⟨h1, h2, ?_⟩
  split
  · rename_i hg
    rw [hg] at h3
    rw [heff]; exact h3
  · rename_i j want hg
    rw [hg] at h3
    obtain ⟨t, h4, h5⟩ := h3
    exact ⟨t, h4, by rw [hev 0 t (guard_in hg h4), heff]; exact h5⟩
/-- What it yields depends on what the operation looks at, and on the memory that this speaks of. -/
theorem Fact.local {ops : List Oper} {S' : St} {o : Oper} {x : AV} (hf : Fact E ops S o x) (ht : ∀ t ∈ tmpsOf ops o, S'.t t = S.t t ∧ (looks o.op = true → ∀ id ∈ idsOf3 (S.t t), S'.m id = S.m id)) (hcap : ∀ f g caps, S'.ev E 0 f = .fn g caps → caps.all AV.isCap = true) : Fact E ops S' o x := by
  obtain ⟨h1, h2, h3⟩ := hf
  have hev : ∀ ty t, t ∈ tmpsOf ops o → S'.ev E ty (.tmp t) = S.ev E ty (.tmp t) := fun ty t h => by simp only [St.ev, (ht t h).1]
  have hops : ∀ T y, y ∈ o.op.operands.toList → S'.ev E T y = S.ev E T y := fun T y hy => by
    cases y with
    | tmp t => exact hev T t (ops_in hy)
    | const v => rfl
    | global v => rfl
    | func f => rfl
  have hval : valK E (S'.ev E) S'.m o.type o.op (ρ := AV) some = valK E (S.ev E) S.m o.type o.op some := by
    rw [valK_local (m := S.m) E o.type o.op (fun hlk T y hy id hid => ?_) hcap]
    · exact valK_congr E _ _ _ hops
    · cases y with
      | tmp t =>
        rw [hops T _ hy] at hid
        simp only [St.ev] at hid
        cases hb : Nat.blt t E.ntmps with
        | false => rw [hb] at hid; simp [idsOf3, idsOf2, idsOf1, idsOf0, AV.id?] at hid
        | true => rw [hb] at hid; exact (ht t (ops_in hy)).2 hlk id hid
      | const v =>
        simp only [St.ev] at hid
        unfold constAV at hid
        split at hid <;> first | (simp [idsOf3, idsOf2, idsOf1, idsOf0, AV.id?] at hid; done) | skip
        · rename_i s
          cases hb : Nat.ble s.size 1000000 <;> rw [hb] at hid <;> simp [idsOf3, idsOf2, idsOf1, idsOf0, AV.id?] at hid
        · split at hid <;> simp [idsOf3, idsOf2, idsOf1, idsOf0, AV.id?] at hid
      | global v => simp [St.ev, idsOf3, idsOf2, idsOf1, idsOf0, AV.id?] at hid
      | func f => simp [St.ev, idsOf3, idsOf2, idsOf1, idsOf0, AV.id?] at hid
  refine ⟨h1, h2, ?_⟩
  split
  · rename_i hg
    rw [hg] at h3
    rw [hval]; exact h3
  · rename_i j want hg
    rw [hg] at h3
    obtain ⟨t, h4, h5⟩ := h3
    exact ⟨t, h4, by rw [hev 0 t (guard_in hg h4), hval]; exact h5⟩
def LS (listed : Array Bool) (i : Nat) : Prop := listed.getD i false = true
theorem LS_set {listed : Array Bool} {i j : Nat} (hi : i < listed.size) : LS (listed.setIfInBounds i true) j ↔ j = i ∨ LS listed j := by
  unfold LS
  simp only [Array.getD_eq_getD_getElem?, Array.getElem?_setIfInBounds]
  by_cases e : i = j
  · subst e; simp [hi]
  · simp [e, Ne.symm e]
theorem LS_true {listed : Array Bool} {i : Nat} (hi : i < listed.size) : listed.getD i true = false ↔ ¬ LS listed i := by
  unfold LS
  simp [Array.getD_eq_getD_getElem?, hi]
def unlisted (n : Nat) (listed : Array Bool) : Nat := ((List.range n).filter fun i => !listed.getD i true).length
theorem filter_lt {l : List Nat} {p q : Nat → Bool} (h : ∀ x, q x = true → p x = true) {y : Nat} (hy : y ∈ l) (hp : p y = true) (hq : q y = false) : (l.filter q).length < (l.filter p).length := by
  have le : ∀ l : List Nat, (l.filter q).length ≤ (l.filter p).length := fun l => by
    induction l with
    | nil => exact Nat.le_refl _
    | cons x l ih =>
      simp only [List.filter_cons]
      cases hqx : q x
      · cases hpx : p x <;> simp <;> omega
      · rw [h x hqx]; simpa using ih
  induction l with
  | nil => cases hy
  | cons x l ih =>
    simp only [List.filter_cons]
    rcases List.mem_cons.1 hy with rfl | hy
    · rw [hq, hp]; simp only [Bool.false_eq_true, if_false, if_true, List.length_cons]; exact Nat.lt_succ_of_le (le l)
    · have := ih hy
      cases hqx : q x
      · cases hpx : p x <;> simp <;> omega
      · rw [h x hqx]; simpa using this
theorem unlisted_set {n : Nat} {listed : Array Bool} {i : Nat} (hn : listed.size = n) (hi : i < n) (h : ¬ LS listed i) : unlisted n (listed.setIfInBounds i true) < unlisted n listed := by
  refine filter_lt (fun x hx => ?_) (List.mem_range.2 hi) (by rw [(LS_true (by omega)).2 h]; rfl) ?_
  · simp only [Array.getD_eq_getD_getElem?, Array.getElem?_setIfInBounds, Bool.not_eq_true'] at hx ⊢
    by_cases e : i = x
    · subst e; simp [hn, hi] at hx
    · simpa [e] using hx
  · simp [Array.getD_eq_getD_getElem?, hn, hi]
theorem unlisted_zero {n : Nat} {listed : Array Bool} (hn : listed.size = n) (h : unlisted n listed = 0) {i : Nat} (hi : i < n) : LS listed i := by
  have := List.filter_eq_nil_iff.1 (List.eq_nil_of_length_eq_zero h) i (List.mem_range.2 hi)
  exact Classical.byContradiction fun hh => this (by rw [(LS_true (by omega)).2 hh]; rfl)
theorem ready_iff {ops : Array Oper} {listed : Array Bool} (hn : listed.size = ops.size) {i : Nat} : i ∈ Region.ready .any ops listed ↔ ¬ LS listed i ∧ ∃ o, ops[i]? = some o ∧ ∀ e ∈ edges o, LS listed e := by
  rw [mem_ready]
  constructor
  · rintro ⟨h1, o, ho, h2⟩
    have hlt : i < ops.size := (Array.getElem?_eq_some_iff.1 ho).1
    refine ⟨(LS_true (by omega)).1 h1, o, ho, fun e he => ?_⟩
    simp only [edges, List.mem_map, List.mem_filter] at he
    obtain ⟨ed, ⟨h3, h4⟩, rfl⟩ := he
    exact h2 ed (Array.mem_toList_iff.1 h3) h4
  · rintro ⟨h1, o, ho, h2⟩
    have hlt : i < ops.size := (Array.getElem?_eq_some_iff.1 ho).1
    refine ⟨(LS_true (by omega)).2 h1, o, ho, fun e he hb => h2 _ ?_⟩
    simp only [edges, List.mem_map, List.mem_filter]
    exact ⟨e, ⟨Array.mem_toList_iff.2 he, hb⟩, rfl⟩
theorem ready_nil {ops : Array Oper} {listed : Array Bool} (hn : listed.size = ops.size) (h : ∀ i, i < ops.size → LS listed i) : Region.ready .any ops listed = [] := by
  refine List.eq_nil_iff_forall_not_mem.2 fun i hi => ?_
  obtain ⟨h1, o, ho, _⟩ := (ready_iff hn).1 hi
  exact h1 (h i (Array.getElem?_eq_some_iff.1 ho).1)

end
end Go.Proofs.Ytckieogkaodkdaa.V
