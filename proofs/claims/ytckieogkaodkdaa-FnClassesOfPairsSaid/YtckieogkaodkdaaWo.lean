/- A region whose order is left open. -/
import Derived.Test.YtckieogkaodkdaaWn
set_option linter.unusedVariables false
set_option linter.unusedSimpArgs false
namespace Go.Proofs.Ytckieogkaodkdaa.V
open Go Go.RowKit

section
variable {P : Program} {E : Env} {w0 : World} {io : Nat → Prop} {S : St} {g : GM} {a : Act} {w : World} {ops : List Oper} {pre : List Nat}

/-! ### forerunners -/
theorem fold_bit {acc : List Nat} {t : Nat} : ∀ (es : List Nat) (s : Nat), hasBit (es.foldl (fun s j => s ||| 2 ^ j ||| acc.getD j 0) s) t = true → hasBit s t = true ∨ ∃ j ∈ es, t = j ∨ hasBit (acc.getD j 0) t = true
  | [], s, h => .inl h
  | e :: es, s, h => by
    rcases fold_bit es _ h with h | ⟨j, hj, h⟩
    · simp only [hasBit, Nat.testBit_or, Bool.or_eq_true, Nat.testBit_two_pow, decide_eq_true_eq] at h
      rcases h with (h | h) | h
      · exact .inl h
      · exact .inr ⟨e, List.mem_cons_self .., .inl h.symm⟩
      · exact .inr ⟨e, List.mem_cons_self .., .inr h⟩
    · exact .inr ⟨j, List.mem_cons_of_mem _ hj, h⟩
theorem forerun_keep : ∀ (l : List Oper) (acc : List Nat) (j : Nat), j < acc.length → (forerun l acc).getD j 0 = acc.getD j 0
  | [], _, _, _ => rfl
  | o :: l, acc, j, h => by
    unfold forerun
    rw [forerun_keep l _ j (by simp; omega)]
    simp only [List.getD_eq_getElem?_getD]
    rw [List.getElem?_append_left h]
theorem forerun_bit {t : Nat} : ∀ (l : List Oper) (acc : List Nat) (i : Nat) (o : Oper), l[i]? = some o → hasBit ((forerun l acc).getD (acc.length + i) 0) t = true → ∃ j ∈ edges o, t = j ∨ (hasBit ((forerun l acc).getD j 0) t = true ∧ j < acc.length + i)
  | [], _, _, _, hi, _ => by simp at hi
  | o' :: l, acc, 0, o, hi, h => by
    simp only [List.getElem?_cons_zero, Option.some.injEq] at hi
    subst hi
    rw [Nat.add_zero] at h ⊢
    have h0 := h
    unfold forerun at h
    rw [forerun_keep l _ acc.length (by simp)] at h
    simp only [List.getD_eq_getElem?_getD, List.getElem?_concat_length, Option.getD_some] at h
    have h : hasBit ((edges o').foldl (fun s j => s ||| 2 ^ j ||| acc.getD j 0) 0) t = true := by simpa only [List.getD_eq_getElem?_getD] using h
    rcases fold_bit _ _ h with h | ⟨j, hj, h⟩
    · simp [hasBit] at h
    · refine ⟨j, hj, h.imp (fun h => h) fun h => ?_⟩
      have hlt : j < acc.length := Nat.lt_of_not_le fun hge => by
        simp [List.getD_eq_getElem?_getD, List.getElem?_eq_none hge, hasBit] at h
      exact ⟨by rw [forerun_keep (o' :: l) acc j hlt]; exact h, hlt⟩
  | o' :: l, acc, i + 1, o, hi, h => by
    simp only [List.getElem?_cons_succ] at hi
    unfold forerun at h ⊢
    generalize (edges o').foldl (fun s j => s ||| 2 ^ j ||| acc.getD j 0) 0 = x at *
    have e : (acc ++ [x]).length + i = acc.length + (i + 1) := by simp; omega
    rw [← e] at h ⊢
    exact forerun_bit l (acc ++ [x]) i o hi h
/-- What is closed under edges is closed under forerunners. -/
theorem pre_closed {L : Nat → Prop} (hlt : ∀ i o, ops[i]? = some o → ∀ e ∈ edges o, e < i) (hL : ∀ i o, ops[i]? = some o → L i → ∀ e ∈ edges o, L e) : ∀ (i : Nat) (o : Oper), ops[i]? = some o → (∀ e ∈ edges o, L e) → ∀ t, hasBit ((forerun ops []).getD i 0) t = true → L t := by
  intro i
  induction i using Nat.strongRecOn with
  | _ i ih =>
    intro o ho he t ht
    obtain ⟨j, hj, h⟩ := forerun_bit ops [] i o ho (by simpa using ht)
    rcases h with rfl | ⟨h, _⟩
    · exact he _ hj
    · have hji := hlt i o ho j hj
      obtain ⟨oj, hoj⟩ : ∃ oj, ops[j]? = some oj := ⟨_, List.getElem?_eq_getElem (Nat.lt_trans hji (List.getElem?_eq_some_iff.1 ho).1)⟩
      exact ih j hji oj hoj (hL j oj hoj (he j hj)) t h
theorem pairs_get (h : pairsOK ops pre = true) : (∀ i o, ops[i]? = some o → ∀ e ∈ edges o, e < i) ∧ ∀ i j a b, ops[i]? = some a → ops[j]? = some b → i ≠ j → pairOK ops pre i j a b = true := by
  unfold pairsOK at h
  simp only [List.all_eq_true, Bool.and_eq_true, Bool.or_eq_true] at h
  refine ⟨fun i o ho e he => Nat.le_of_ble_eq_true ((h (o, i) (List.mem_zipIdx_iff_getElem?.2 ho)).1 e he), fun i j a b ha hb hne => ?_⟩
  rcases (h (a, i) (List.mem_zipIdx_iff_getElem?.2 ha)).2 (b, j) (List.mem_zipIdx_iff_getElem?.2 hb) with h | h
  · exact absurd (beq_true h) hne
  · exact h
theorem pair_get {i j d : Nat} {a b : Oper} (h : pairOK ops pre i j a b = true) (hd : a.dst = some d) : b.dst ≠ some d ∧ (d ∈ tmpsOf ops b → hasBit (pre.getD j 0) i = true ∨ hasBit (pre.getD i 0) j = true) := by
  unfold pairOK at h
  rw [hd] at h
  simp only [Bool.and_eq_true, Bool.or_eq_true, bne_iff_ne, ne_eq, Bool.not_eq_true'] at h
  refine ⟨h.1, fun ht => ?_⟩
  rcases h.2 with (h2 | h2) | h2
  · rw [List.contains_iff_mem.2 ht] at h2; cases h2
  · exact .inl h2
  · exact .inr h2
theorem order_at {i : Nat} : ∀ {l1 l2 : List Nat} {done : Nat}, orderOK pre (l1 ++ i :: l2) done = true → ∀ j, hasBit (pre.getD i 0) j = true → hasBit done j = true ∨ j ∈ l1
  | [], l2, done, h, j, hj => by
    simp only [List.nil_append, orderOK, Bool.and_eq_true] at h
    have e := beq_true h.1
    rw [← e] at hj
    simp only [hasBit, Nat.testBit_and, Bool.and_eq_true] at hj
    exact .inl hj.2
  | x :: l1, l2, done, h, j, hj => by
    simp only [List.cons_append, orderOK, Bool.and_eq_true] at h
    rcases order_at h.2 j hj with h1 | h1
    · simp only [hasBit, Nat.testBit_or, Bool.or_eq_true, Nat.testBit_two_pow, decide_eq_true_eq] at h1
      rcases h1 with h1 | h1
      · exact .inl h1
      · exact .inr (h1 ▸ List.mem_cons_self ..)
    · exact .inr (List.mem_cons_of_mem _ h1)

/-! ### what happened, in the order gone -/
structure Rec where
  i : Nat
  o : Oper
  k : AV ⊕ Option Eff
def appR (S : St) (r : Rec) : St := match r.k with
  | .inl x => setDst S r.o.dst x
  | .inr F => appE S r.o F
def appL : St → List Rec → St
  | S, [] => S
  | S, r :: l => appL (appR S r) l
theorem appL_append {l l' : List Rec} : ∀ {S : St}, appL S (l ++ l') = appL (appL S l) l' := by
  induction l with
  | nil => intro S; rfl
  | cons r l ih => intro S; exact ih
def Told (E : Env) (ops : List Oper) (S : St) (r : Rec) : Prop := ops[r.i]? = some r.o ∧ match r.k with
  | .inl x => Fact E ops S r.o x
  | .inr F => EFact E ops S r.o F
def Goes (E : Env) (ops : List Oper) (pre : List Nat) : St → List Seen → List Nat → List Rec → Prop
  | _, _, _, [] => True
  | S, log, es, r :: rs => Told E ops S r ∧ (∀ j ∈ es, hasBit (pre.getD r.i 0) j = true) ∧ match r.k with
    | .inl x => Goes E ops pre (appR S r) (⟨r.i, r.o, S, x⟩ :: log) es rs
    | .inr F => (∀ s ∈ log, hasBit (pre.getD r.i 0) s.i = true ∨ s.clear ops (stillOp E (S.ev E) S.m r.o) (idsE F) = true) ∧ Goes E ops pre (appR S r) log (r.i :: es) rs
theorem go_goes {ρ : Type} {κ : St → Option ρ} {r0 : ρ} : ∀ {co : List Nat} {log : List Seen} {es : List Nat} {S : St}, drawGo E ops pre co log es S κ = some r0 → ∃ rs : List Rec, rs.map (·.i) = co ∧ Goes E ops pre S log es rs ∧ κ (appL S rs) = some r0
  | [], log, es, S, h => ⟨[], rfl, trivial, h⟩
  | i :: co, log, es, S, h => by
    unfold drawGo at h
    split at h
    rotate_left
    · cases h
    rename_i o ho
    rcases cond_some h with ⟨hes, h⟩ | ⟨_, h⟩
    rotate_left
    · cases h
    have hes : ∀ j ∈ es, hasBit (pre.getD i 0) j = true := fun j hj => List.all_eq_true.1 hes j hj
    rcases cond_some h with ⟨_, h⟩ | ⟨_, h⟩
    · obtain ⟨x, h1, h2⟩ := stepV_fact h
      obtain ⟨rs, h3, h4, h5⟩ := go_goes h2
      exact ⟨⟨i, o, .inl x⟩ :: rs, by rw [List.map_cons, h3], ⟨⟨ho, h1⟩, hes, h4⟩, h5⟩
    · obtain ⟨F, h1, h2⟩ := doingK_fact h
      rcases cond_some h2 with ⟨hl, h2⟩ | ⟨_, h2⟩
      rotate_left
      · cases h2
      obtain ⟨rs, h3, h4, h5⟩ := go_goes h2
      refine ⟨⟨i, o, .inr F⟩ :: rs, by rw [List.map_cons, h3], ⟨⟨ho, h1⟩, hes, fun s hs => ?_, h4⟩, h5⟩
      have := List.all_eq_true.1 hl s hs
      simpa only [Bool.or_eq_true] using this
/-- What is known of what happened at one place. -/
theorem Goes.at {r : Rec} {l2 : List Rec} : ∀ {l1 : List Rec} {log : List Seen} {es : List Nat} {S : St}, Goes E ops pre S log es (l1 ++ r :: l2) →
    Told E ops (appL S l1) r ∧ (∀ j ∈ es, hasBit (pre.getD r.i 0) j = true) ∧ (∀ q ∈ l1, ∀ F, q.k = .inr F → hasBit (pre.getD r.i 0) q.i = true) ∧
    ∀ F, r.k = .inr F → (∀ s ∈ log, hasBit (pre.getD r.i 0) s.i = true ∨ s.clear ops (stillOp E ((appL S l1).ev E) (appL S l1).m r.o) (idsE F) = true) ∧ ∀ l11 q l12 x, l1 = l11 ++ q :: l12 → q.k = .inl x → hasBit (pre.getD r.i 0) q.i = true ∨ Seen.clear ops (stillOp E ((appL S l1).ev E) (appL S l1).m r.o) (idsE F) ⟨q.i, q.o, appL S l11, x⟩ = true
  | [], log, es, S, h => by
    refine ⟨h.1, h.2.1, (fun q hq => by cases hq), fun F hF => ?_⟩
    have h2 := h.2.2
    rw [hF] at h2
    exact ⟨h2.1, fun l11 q l12 x e => by cases l11 <;> cases e⟩
  | q :: l1, log, es, S, h => by
    have h2 := h.2.2
    split at h2
    · rename_i x hx
      obtain ⟨a1, a2, a3, a4⟩ := Goes.at h2
      refine ⟨a1, a2, fun p hp F hF => ?_, fun F hF => ⟨fun s hs => (a4 F hF).1 s (List.mem_cons_of_mem _ hs), fun l11 p l12 y e hy => ?_⟩⟩
      · rcases List.mem_cons.1 hp with rfl | hp
        · rw [hx] at hF; cases hF
        · exact a3 p hp F hF
      · cases l11 with
        | nil =>
          simp only [List.nil_append, List.cons.injEq] at e
          obtain ⟨rfl, rfl⟩ := e
          rw [hx] at hy; cases hy
          exact (a4 F hF).1 _ (List.mem_cons_self ..)
        | cons p0 l11 =>
          simp only [List.cons_append, List.cons.injEq] at e
          obtain ⟨rfl, rfl⟩ := e
          exact (a4 F hF).2 l11 p l12 y rfl hy
    · rename_i G hG
      obtain ⟨a1, a2, a3, a4⟩ := Goes.at h2.2
      refine ⟨a1, fun j hj => a2 j (List.mem_cons_of_mem _ hj), fun p hp F hF => ?_, fun F hF => ⟨(a4 F hF).1, fun l11 p l12 y e hy => ?_⟩⟩
      · rcases List.mem_cons.1 hp with rfl | hp
        · exact a2 _ (List.mem_cons_self ..)
        · exact a3 p hp F hF
      · cases l11 with
        | nil =>
          simp only [List.nil_append, List.cons.injEq] at e
          obtain ⟨rfl, rfl⟩ := e
          rw [hG] at hy; cases hy
        | cons p0 l11 =>
          simp only [List.cons_append, List.cons.injEq] at e
          obtain ⟨rfl, rfl⟩ := e
          exact (a4 F hF).2 l11 p l12 y rfl hy

/-! ### what is left out, and what came ahead -/
theorem setDst_m (S : St) (d : Option Nat) (x : AV) : (setDst S d x).m = S.m := by cases d <;> rfl
theorem setDst_t {S : St} {d : Option Nat} {x : AV} {t : Nat} (h : d ≠ some t) : (setDst S d x).t t = S.t t := by
  cases d with
  | none => rfl
  | some k =>
    have e : t ≠ k := fun e => h (by rw [e])
    simp only [setDst, St.set, upd, beq_ne e, cond_false]
theorem app_m (S : St) (d : Option Nat) (F : Eff) : (S.app d F).m = F.M.m := by
  unfold St.app; split <;> rfl
theorem app_t {S : St} {d : Option Nat} {F : Eff} {t : Nat} (h : d ≠ some t) : (S.app d F).t t = F.M.f (S.t t) := by
  cases d with
  | none => rfl
  | some k =>
    have e : t ≠ k := fun e => h (by rw [e])
    cases hv : F.v with
    | none => simp only [St.app, hv]; rfl
    | some v => simp only [St.app, hv, St.set, upd, beq_ne e, cond_false]; rfl
theorem appR_agree {T : Nat → Prop} {S S' : St} (r : Rec) (hm : S'.m = S.m) (ht : ∀ t, T t → S'.t t = S.t t) : (appR S' r).m = (appR S r).m ∧ ∀ t, T t → (appR S' r).t t = (appR S r).t t := by
  have set : ∀ (d : Option Nat) (x : AV), (setDst S' d x).m = (setDst S d x).m ∧ ∀ t, T t → (setDst S' d x).t t = (setDst S d x).t t := fun d x => by
    refine ⟨by rw [setDst_m, setDst_m, hm], fun t h => ?_⟩
    cases d with
    | none => exact ht t h
    | some k =>
      simp only [setDst, St.set, upd]
      cases Nat.beq t k
      · exact ht t h
      · rfl
  unfold appR
  split
  · exact set _ _
  · unfold appE
    split
    · exact set _ _
    · rename_i F
      refine ⟨by rw [app_m, app_m], fun t h => ?_⟩
      unfold St.app
      split
      · rename_i k v _ _
        simp only [St.set, upd, St.act]
        cases Nat.beq t k
        · simp only [cond_false, ht t h]
        · rfl
      · simp only [St.act, ht t h]
def sel (L : Nat → Bool) (rs : List Rec) : List Rec := rs.filter fun r => L r.i
theorem missing_ok {T : Nat → Prop} {L : Nat → Bool} : ∀ {l : List Rec} {S S' : St}, (∀ q ∈ l, L q.i = false → (∃ x, q.k = .inl x) ∧ ∀ d, q.o.dst = some d → ¬ T d) → S'.m = S.m → (∀ t, T t → S'.t t = S.t t) →
    (appL S' (sel L l)).m = (appL S l).m ∧ ∀ t, T t → (appL S' (sel L l)).t t = (appL S l).t t
  | [], S, S', _, hm, ht => ⟨hm, ht⟩
  | q :: l, S, S', h, hm, ht => by
    have hl := fun p hp => h p (List.mem_cons_of_mem q hp)
    unfold sel
    rw [List.filter_cons]
    cases hq : L q.i with
    | true =>
      obtain ⟨h1, h2⟩ := appR_agree q hm ht
      simp only [if_true]
      exact missing_ok (l := l) hl h1 h2
    | false =>
      simp only [Bool.false_eq_true, if_false]
      obtain ⟨⟨x, hx⟩, hd⟩ := h q (List.mem_cons_self ..) hq
      have e : appR S q = setDst S q.o.dst x := by unfold appR; rw [hx]
      refine missing_ok (l := l) (S := appR S q) hl (by rw [e, setDst_m]; exact hm) fun t htt => ?_
      rw [e, setDst_t (fun he => hd t he htt)]
      exact ht t htt
theorem ids_clear0 {ids : List Nat} {x : AV} (h : clear0 ids x = true) : ∀ i ∈ idsOf0 x, i ∉ ids := fun i hi => clear0_iff.1 h i (by unfold idsOf0 at hi; simpa using hi)
theorem ids_clear1 {ids : List Nat} {x : AV} (h : clear1 ids x = true) : ∀ i ∈ idsOf1 x, i ∉ ids := by
  cases x <;> simp only [clear1] at h <;> simp only [idsOf1] <;> try exact ids_clear0 h
  intro i hi
  obtain ⟨y, hy, hi⟩ := List.mem_flatMap.1 hi
  simp only [Bool.and_eq_true, List.all_eq_true] at h
  exact ids_clear0 (h.2 y hy) i hi
theorem ids_clear2 {ids : List Nat} {x : AV} (h : clear2 ids x = true) : ∀ i ∈ idsOf2 x, i ∉ ids := by
  cases x <;> simp only [clear2] at h <;> simp only [idsOf2] <;> try exact ids_clear1 h
  intro i hi
  obtain ⟨y, hy, hi⟩ := List.mem_flatMap.1 hi
  simp only [List.all_eq_true] at h
  exact ids_clear1 (h y hy) i hi
theorem ids_clear3 {ids : List Nat} {x : AV} (h : clear3 ids x = true) : ∀ i ∈ idsOf3 x, i ∉ ids := by
  cases x <;> simp only [clear3] at h <;> simp only [idsOf3] <;> try exact ids_clear2 h
  intro i hi
  obtain ⟨y, hy, hi⟩ := List.mem_flatMap.1 hi
  simp only [List.all_eq_true] at h
  exact ids_clear2 (h y hy) i hi
/-- What came ahead has left alone what is looked at. -/
theorem extra_ok {T : Nat → Prop} {lk : Prop} {C : St} : ∀ {l : List Rec} {B : St}, (∀ t, T t → B.t t = C.t t ∧ (lk → ∀ id ∈ idsOf3 (C.t t), B.m id = C.m id)) →
    (∀ l1 e l2, l = l1 ++ e :: l2 → (∀ d, e.o.dst = some d → ¬ T d) ∧ ∀ F, e.k = .inr (some F) → ∀ t, T t → F.M.f (C.t t) = C.t t ∧ (lk → (∀ id ∈ idsOf3 (C.t t), (appL B l1).m id = C.m id) → ∀ id ∈ idsOf3 (C.t t), F.M.m id = C.m id)) →
    ∀ t, T t → (appL B l).t t = C.t t ∧ (lk → ∀ id ∈ idsOf3 (C.t t), (appL B l).m id = C.m id)
  | [], B, h, _ => h
  | e :: l, B, h, hl => by
    obtain ⟨hd, hF⟩ := hl [] e l rfl
    refine extra_ok (l := l) (B := appR B e) (fun t ht => ?_) fun l1 e' l2 he => hl (e :: l1) e' l2 (by rw [he]; rfl)
    obtain ⟨h1, h2⟩ := h t ht
    have set : ∀ x, (setDst B e.o.dst x).t t = C.t t ∧ (lk → ∀ id ∈ idsOf3 (C.t t), (setDst B e.o.dst x).m id = C.m id) := fun x => by
      rw [setDst_t (fun he => hd t he ht), setDst_m]
      exact ⟨h1, h2⟩
    unfold appR
    split
    · exact set _
    · rename_i F hk
      cases F with
      | none => exact set _
      | some F =>
        obtain ⟨c1, c2⟩ := hF F hk t ht
        show (B.app e.o.dst F).t t = _ ∧ (lk → ∀ id ∈ _, (B.app e.o.dst F).m id = _)
        rw [app_t (fun he => hd t he ht), app_m, h1]
        exact ⟨c1, fun hlk => c2 hlk (h2 hlk)⟩
theorem setDst_comm {S : St} {d d' : Option Nat} {x y : AV} (h : ∀ k, d = some k → d' ≠ some k) : setDst (setDst S d x) d' y = setDst (setDst S d' y) d x := by
  cases d with
  | none => rfl
  | some k =>
    cases d' with
    | none => rfl
    | some k' =>
      have e : k ≠ k' := fun e => h k rfl (by rw [e])
      simp only [setDst, St.set]
      congr 1
      funext i
      simp only [upd]
      by_cases e1 : i = k
      · subst e1; simp only [beq_self, beq_ne e, cond_true, cond_false]
      · simp only [beq_ne e1, cond_false]
theorem app_comm {S : St} {d d' : Option Nat} {x : AV} {F : Eff} (h : ∀ k, d = some k → d' ≠ some k) (hx : F.M.f x = x) : (setDst S d x).app d' F = setDst (S.app d' F) d x := by
  have h1 : (setDst S d x).act F.M = setDst (S.act F.M) d x := by
    cases d with
    | none => rfl
    | some k => simp only [setDst]; rw [set_act, hx]
  cases d' with
  | none => exact h1
  | some k =>
    cases hv : F.v with
    | none => simp only [St.app, hv]; exact h1
    | some v =>
      simp only [St.app, hv]
      rw [h1]
      exact setDst_comm (d' := some k) h
/-- What is yielded may as well be yielded ahead of what leaves it alone. -/
theorem commute_ok {d : Option Nat} {x : AV} : ∀ {l : List Rec} {B : St}, (∀ e ∈ l, (∀ k, d = some k → e.o.dst ≠ some k) ∧ ∀ F, e.k = .inr (some F) → F.M.f x = x) → appL (setDst B d x) l = setDst (appL B l) d x
  | [], B, _ => rfl
  | e :: l, B, h => by
    obtain ⟨h1, h2⟩ := h e (List.mem_cons_self ..)
    have e1 : appR (setDst B d x) e = setDst (appR B e) d x := by
      unfold appR
      split
      · exact setDst_comm h1
      · rename_i F hF
        cases F with
        | none => exact setDst_comm h1
        | some F => exact app_comm h1 (h2 F hF)
    show appL (appR (setDst B d x) e) l = setDst (appL (appR B e) l) d x
    rw [e1]
    exact commute_ok fun p hp => h p (List.mem_cons_of_mem _ hp)
end
end Go.Proofs.Ytckieogkaodkdaa.V
