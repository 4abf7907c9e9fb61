/- Operations that do something. -/
import Derived.Test.YtckieogkaodkdaaWh
set_option linter.unusedVariables false
set_option linter.unusedSimpArgs false
namespace Go.Proofs.Ytckieogkaodkdaa.V
open Go Go.RowKit

/-! ### what an operation comes to does not depend on what is done with it -/
section
variable {ρ σ : Type} {κ : Eff → Option ρ} {f : ρ → Option σ}
theorem valK_bind' {κ : AV → Option ρ} (E : Env) (ev : Nat → Operand → AV) (m : Nat → ME) (ty : Nat) (op : Op) : (valK E ev m ty op κ).bind f = valK E ev m ty op fun v => (κ v).bind f := valK_bind E ev m ty op
theorem storeK_bind (E : Env) (m : Nat → ME) (T : Nat) (x v : AV) : (storeK E m T x v κ).bind f = storeK E m T x v fun F => (κ F).bind f := by
  unfold storeK
  repeat' first
    | rfl
    | (rw [cond_bind]; congr 1)
    | split
theorem appendK_bind (E : Env) (m : Nat → ME) (t0 : Nat) (x y : AV) : (appendK E m t0 x y κ).bind f = appendK E m t0 x y fun F => (κ F).bind f := by
  unfold appendK
  repeat' first
    | rfl
    | (rw [cond_bind]; congr 1)
    | split
theorem callB_bind (E : Env) (m : Nat → ME) (dst : Option Nat) (io : List (Nat × Nat × List Nat)) (pl news : List Nat) (x : AV) (r : Nat → ME) : (callB E m dst io pl news x r κ).bind f = callB E m dst io pl news x r fun F => (κ F).bind f := by
  unfold callB
  simp only [cond_bind]
  congr 1
  cases dst <;> simp only [cond_bind] <;> rfl
theorem callK_bind (E : Env) (m : Nat → ME) (dst : Option Nat) (g : Nat) (args : List AV) : (callK E m dst g args κ).bind f = callK E m dst g args fun F => (κ F).bind f := by
  unfold callK
  simp only [cond_bind]
  congr 1
  split
  · rw [Option.bind_assoc]; simp only [callB_bind]
  · rfl
theorem markK_bind (E : Env) (m : Nat → ME) (d dp : Nat) (v : AV) : (markK E m d dp v κ).bind f = markK E m d dp v fun F => (κ F).bind f := by
  unfold markK
  split
  · rw [cond_bind]; rfl
  · rw [cond_bind]
  · rw [cond_bind]; rfl
  · rfl
theorem newK_bind (E : Env) (ev : Nat → Operand → AV) (m : Nat → ME) (ty : Nat) (op : Op) (d dp : Nat) : (newK E ev m ty op d dp κ).bind f = newK E ev m ty op d dp fun F => (κ F).bind f := by
  unfold newK
  split
  · rw [valK_bind']
    congr 1
    funext v
    split
    · rw [cond_bind]; rfl
    · rfl
  · rw [cond_bind]
    congr 1
    · simp only
      rw [valK_bind']
      congr 1
      funext v
      split
      · rw [cond_bind]; rfl
      · rfl
    · repeat' first
        | rfl
        | (rw [cond_bind]; rfl)
        | split
  · rw [valK_bind']
    congr 1
    funext v
    rw [markK_bind]
theorem effK_bind (E : Env) (ev : Nat → Operand → AV) (m : Nat → ME) (o : Oper) : (effK E ev m o κ).bind f = effK E ev m o fun F => (κ F).bind f := by
  unfold effK
  split
  · split
    · rw [cond_bind]
      congr 1
      rw [cond_bind]
      congr 1
      · split
        · rw [cond_bind]; rfl
        · rfl
      · split <;> rfl
    · rfl
  · split
    · rw [cond_bind]; rfl
    · rfl
  · split
    · rw [storeK_bind]
    · rfl
  · split
    · split
      · rw [cond_bind, callK_bind]; rfl
      · rfl
    · split
      · rw [cond_bind, appendK_bind]; rfl
      · rfl
    · rw [valK_bind']
  · split
    · split
      · rw [newK_bind]
      · simp only; rw [valK_bind']
    · rw [valK_bind']
/-- What it comes to, and what is done with it. -/
theorem effK_some {E : Env} {ev : Nat → Operand → AV} {m : Nat → ME} {o : Oper} {r : ρ} (h : effK E ev m o κ = some r) : ∃ F, effK E ev m o some = some F ∧ κ F = some r := by
  have e : effK E ev m o κ = (effK E ev m o some).bind κ := by rw [effK_bind]; rfl
  rw [e] at h
  exact Option.bind_eq_some_iff.1 h
end

/-! ### values behind a shuffle of names -/
/-- What leaves constants alone. -/
def Calm (f : AV → AV) : Prop := f .undef = .undef ∧ f .nilI = .nilI ∧ (∀ e x, f (.d e x) = .d e x) ∧ (∀ T e, f (.nilS T e) = .nilS T e) ∧ ∀ F, f (.fn F []) = .fn F []
theorem Calm.id : Calm (fun x => x) := ⟨rfl, rfl, fun _ _ => rfl, fun _ _ => rfl, fun _ => rfl⟩
theorem Calm.lift {f : AV → AV} (hf : Tame f) (h1 : f .undef = .undef) (h2 : f .nilI = .nilI) : Calm (lift3 f) := ⟨h1, h2, hf.1, hf.2, fun _ => rfl⟩
theorem Calm.comp {f g : AV → AV} (hf : Calm f) (hg : Calm g) : Calm (fun x => g (f x)) :=
  ⟨by simp only; rw [hf.1, hg.1], by simp only; rw [hf.2.1, hg.2.1], fun e x => by simp only; rw [hf.2.2.1, hg.2.2.1], fun T e => by simp only; rw [hf.2.2.2.1, hg.2.2.2.1], fun F => by simp only; rw [hf.2.2.2.2, hg.2.2.2.2]⟩
theorem calm_freeze (id : Nat) (m : Nat → ME) : Calm (freezeM id m).f := by
  unfold freezeM
  split
  · exact .lift (tame_freeze ..) rfl rfl
  · exact .id
theorem calm_freezeIn (l : List Nat) : ∀ (m : Nat → ME), Calm (freezeInM l m).f := by
  induction l with
  | nil => intro m; exact .id
  | cons x l ih => intro m; exact (calm_freeze x m).comp (ih _)
theorem ev_act (S : St) (E : Env) {M : Mo} (h : Calm M.f) : (fun T x => M.f (S.ev E T x)) = (S.act M).ev E := by
  funext T x
  cases x with
  | tmp t =>
    simp only [St.ev, St.act]
    cases Nat.blt t E.ntmps
    · exact h.1
    · rfl
  | const v =>
    simp only [St.ev]
    unfold constAV
    split
    · exact h.2.2.1 _ _
    · exact h.2.2.1 _ _
    · rename_i s
      cases Nat.ble s.size 1000000
      · exact h.1
      · exact h.2.2.1 _ _
    · exact h.2.1
    · split
      · exact h.2.2.2.1 _ _
      · exact h.1
    · exact h.1
  | global v => exact h.1
  | func f => exact h.2.2.2.2 _

section
variable {P : Program} {E : Env} {w0 : World} {io : Nat → Prop} {S : St} {g : GM} {a : Act} {w : World}
/-- An operation leads on to what it comes to. -/
def Does (P : Program) (E : Env) (w0 : World) (io : Nat → Prop) (S : St) (g : GM) (a : Act) (w : World) (o : Oper) (F : Eff) : Prop :=
  ∀ (K : Act → World → Prop) (Q : Exit → Act → World → Prop), (∀ g' a' w', SR w0 io E.ntmps (S.app o.dst F) g' a' w' → Kept E.nio S g (S.app o.dst F) g' → K a' w') → o.wp P a w K Q
theorem own_ok (hT : ∀ t, (E.ty t).known = true → TyOK P t (E.ty t)) (h : SR w0 io E.ntmps S g a w) {o : Oper} (hkn : known E (opTys E o.op) = true) {T : Nat} {e : ET} {xs : List e.ty} {dp : Nat}
    (hk : valK E (S.ev E) S.m o.type o.op some = some (.d (.sl T e) xs)) (hn : (∃ T l c, o.op = .makeSlice T l c) ∨ (∃ T n ps, o.op = .buildSlice T n ps) ∧ (dp = 0 ∨ e.isSl = false)) (hz1 : e.sz = 1) : YieldsOwn P S g a w o T e dp xs := by
  have hT : ∀ t ∈ opTys E o.op, TyOK P t (E.ty t) := fun t ht => hT t (List.all_eq_true.1 hkn t ht)
  unfold valK at hk
  rcases cond_some hk with ⟨hs, hk⟩ | ⟨_, hk⟩
  rotate_left
  · cases hk
  rcases hn with ⟨T1, l, c, hop⟩ | ⟨⟨T1, n, ps, hop⟩, hdp⟩
  · rw [hop] at hk hs hT
    simp only [valK0] at hk
    split at hk
    · rename_i n e' hl he
      rcases cond_some hk with ⟨hb, hk⟩ | ⟨_, hk⟩
      rotate_left
      · cases hk
      rcases cond_some hk with ⟨hn', hk⟩ | ⟨_, hk⟩
      rotate_left
      · cases hk
      rcases cond_some hk with ⟨hf, hk⟩ | ⟨_, hk⟩
      rotate_left
      · cases hk
      simp only [Bool.and_eq_true] at hb
      injection hk with hk
      injection hk with h1 h2
      injection h1 with h3 h4
      subst h4; subst h3
      have h2 := eq_of_heq h2
      subst h2
      exact o_makeSlice h (hT _ (by simp [opTys])) (isSl_iff hs) (hT _ (by simp [opTys])) hop hl hb.1.1 (of_decide_eq_true hn') hf he (beq_true hb.1.2) (beq_true hb.2) dp
    · cases hk
  · rw [hop] at hk hs hT
    simp only [valK0] at hk
    rcases cond_some hk with ⟨hb, hk⟩ | ⟨_, hk⟩
    rotate_left
    · cases hk
    simp only [Bool.and_eq_true] at hb
    split at hk
    · split at hk
      · rename_i e' he xs' hxs
        rcases cond_some hk with ⟨hz, hk⟩ | ⟨_, hk⟩
        · injection hk with hk
          injection hk with h1 h2
          injection h1 with h3 h4
          subst h4; subst h3
          have h2 := eq_of_heq h2
          subst h2
          exact o_buildSlice h (hT _ (by simp [opTys])) (isSl_iff hs) (hT _ (by simp [opTys])) hop (beq_true hb.1.1) hb.1.2 (Nat.le_of_ble_eq_true hb.2) hxs (beq_true hz) hz1 hdp
        · cases hk
      · cases hk
    · cases hk

/-! ### new variables -/
theorem nilNames_mem {d dp : Nat} : ∀ {l : List AV} {j k : Nat} {x : ME}, (k, x) ∈ nilNames d dp j l → (∃ i, j ≤ i ∧ k = nameOf d (i + 1)) ∧ ∃ T e dp, x = .obj T e dp []
  | [], _, _, _, h => by cases h
  | v :: l, j, k, x, h => by
    have rest : (k, x) ∈ nilNames d dp (j + 1) l → (∃ i, j ≤ i ∧ k = nameOf d (i + 1)) ∧ ∃ T e dp, x = .obj T e dp [] := fun h => by
      obtain ⟨⟨i, h1, h2⟩, h3⟩ := nilNames_mem h
      exact ⟨⟨i, by omega, h2⟩, h3⟩
    cases v <;> simp only [nilNames] at h <;> first | exact rest h | skip
    rcases List.mem_cons.1 h with h | h
    · injection h with h1 h2; exact ⟨⟨j, Nat.le_refl _, h1⟩, _, _, _, h2⟩
    · exact rest h
theorem nilNames_nodup {d dp : Nat} : ∀ {l : List AV} {j : Nat}, ((nilNames d dp j l).map (·.1)).Nodup
  | [], _ => List.nodup_nil
  | v :: l, j => by
    cases v <;> simp only [nilNames] <;> first | exact nilNames_nodup | skip
    simp only [List.map_cons, List.nodup_cons]
    refine ⟨fun h => ?_, nilNames_nodup⟩
    obtain ⟨⟨k, c⟩, h1, h2⟩ := List.mem_map.1 h
    obtain ⟨⟨i, h3, h4⟩, _⟩ := nilNames_mem h1
    simp only at h2
    rw [h4] at h2
    unfold nameOf at h2
    omega
theorem nilCells_ok {m : Nat → ME} {ok : Nat → Prop} {d dp : Nat} : ∀ {l0 l : List AV} {vs : List Value} {j : Nat}, (∀ (i : Nat) T e, l[i]? = some (.nilS T e) → l0[i]? = some (.nilS T e)) → (∀ p ∈ nilNames d dp j l0, m p.1 = p.2 ∧ g p.1 = nilG) → All2 (R1 w ok m g) l vs → All2 (R1 w ok m g) (nilCells d j l) vs
  | l0, [], vs, j, _, _, h => by cases h; exact .nil
  | l0, x :: l, vs, j, hl, hn, h => by
    cases h with
    | cons h1 h2 =>
      rename_i v vs
      obtain ⟨x0, l0', e0, htl⟩ : ∃ x0 l0', (l0 = x0 :: l0' ∨ (l0 = [] ∧ l0' = [])) ∧ ∀ p ∈ nilNames d dp (j + 1) l0', m p.1 = p.2 ∧ g p.1 = nilG := by
        cases l0 with
        | nil => exact ⟨.undef, [], .inr ⟨rfl, rfl⟩, fun p hp => by cases hp⟩
        | cons y l0 => exact ⟨y, l0, .inl rfl, fun p hp => hn p (by cases y <;> simp only [nilNames] <;> first | exact hp | exact List.mem_cons_of_mem _ hp)⟩
      have hrest : All2 (R1 w ok m g) (nilCells d (j + 1) l) vs := nilCells_ok (l0 := l0') (fun i T e hi => by
        have := hl (i + 1) T e (by simpa using hi)
        rcases e0 with e0 | ⟨e0, e1⟩
        · rw [e0] at this; simpa using this
        · rw [e0] at this; simp at this) htl h2
      cases x <;> simp only [nilCells] <;> try exact .cons h1 hrest
      rename_i T e
      have h0 := hl 0 T e rfl
      rcases e0 with e0 | ⟨e0, _⟩
      · rw [e0] at h0
        simp only [List.getElem?_cons_zero, Option.some.injEq] at h0
        subst h0
        obtain ⟨h3, h4⟩ := hn (nameOf d (j + 1), .obj T e dp []) (by rw [e0]; simp only [nilNames]; exact List.mem_cons_self ..)
        refine .cons ?_ hrest
        have h1 : v = .slice none 0 0 := h1
        subst h1
        refine ⟨⟨T, e, dp, [], h3⟩, 0, fun _ => .lf, ?_⟩
        simp only at h4
        rw [h4]
        rfl
      · rw [e0] at h0; simp at h0
theorem d_alloc (h : SR w0 io E.ntmps S g a w) {o : Oper} {T d : Nat} (hT : TyOK P T (E.ty T)) (hel : (E.ty T).isArr = true → TyOK P (E.ty T).elem (E.ty (E.ty T).elem)) (ho : o.op = .alloc T) (hd : o.dst = some d) {F : Eff}
    (hk : effK E (S.ev E) S.m o some = some F) : Does P E w0 io S g a w o F := by
  intro K Q hK
  obtain ⟨z, hz, hzc⟩ := hT.zeroV
  have hrun : (execOp a.eval o).run P w = .ok (.value (.pointer (some ⟨w.heap.size, 0, none⟩))) (w.alloc (.cells z.cells T)) := by
    simp [execOp, ho, Instr.alloc, hz, newVar, newRow]
  unfold Oper.wp
  rw [hrun, Oper.upon_value, hd]
  rw [hd] at hK
  simp only [effK, ho, hd] at hk
  rcases cond_some hk with ⟨hn, hk⟩ | ⟨_, hk⟩
  rotate_left
  · cases hk
  have hn := Nat.le_of_ble_eq_true hn
  rcases cond_some hk with ⟨har, hk⟩ | ⟨har, hk⟩
  · split at hk
    · rename_i e he
      rcases cond_some hk with ⟨hsz, hk⟩ | ⟨_, hk⟩
      · injection hk with hk
        subst hk
        obtain ⟨n, el, hkd⟩ := isArr_iff.1 har
        have hel := hel har
        have hel' : (E.ty T).elem = el := by simp only [TI.elem, hkd]
        rw [hel'] at hel he hsz
        obtain ⟨hn0, z0, vs, hz', hvs, hz0, hz1⟩ := hT.zeroA hkd hel
        obtain ⟨hna, hdz⟩ := hel.dz e he
        have hrd := zero_cell hel hna hz0 hdz hz1
        have hzz : z = .agg vs := by have := hz w; rw [hz' w] at this; injection this with this; exact this.symm
        subst hzz
        obtain ⟨g', h1, h2⟩ := h.newArr d (e := e) (k := (E.ty T).sz) (xs := List.replicate (E.ty T).sz e.dflt) (by simp) vs T (by
          rw [hvs]
          generalize (E.ty T).sz = k
          induction k with
          | zero => exact .nil
          | succ k ih => exact .cons (hrd w _) ih) hn
        exact hK _ _ _ h1 h2
      · cases hk
    · cases hk
  · have hzc := hzc har
    split at hk
    · injection hk with hk
      subst hk
      obtain ⟨g', h1, h2⟩ := h.newBox d (E.ty T).zero z.cells T (hzc.mono fun _ _ h => R1.of0 (h.rel _ _ _ _)) hn
      exact hK _ _ _ h1 h2
    · rename_i dp hobj
      injection hk with hk
      subst hk
      generalize hnn : nilNames d dp 0 (E.ty T).zero = nn at *
      have hnm : ∀ p ∈ nn, (∃ i, p.1 = nameOf d (i + 1)) ∧ ∃ T e dp, p.2 = .obj T e dp [] := fun p hp => by
        rw [← hnn] at hp
        obtain ⟨⟨i, _, h1⟩, h2⟩ := nilNames_mem hp
        exact ⟨⟨i, h1⟩, h2⟩
      have h1 := h.dropIn (nn.map (·.1))
      obtain ⟨g1, h2, h3, h4, h5, _, _⟩ := h1.putNil nn (fun p hp => ⟨dropIn_none (List.mem_map.2 ⟨p, hp, rfl⟩), (hnm p hp).2⟩) (by rw [← hnn]; exact nilNames_nodup) (nio := E.nio) fun p hp => by
        obtain ⟨⟨i, h1⟩, _⟩ := hnm p hp
        rw [h1]; unfold nameOf; omega
      obtain ⟨g', h6, h7⟩ := h2.newBox d (nilCells d 0 (E.ty T).zero) z.cells T (nilCells_ok (l0 := (E.ty T).zero) (dp := dp) (fun _ _ _ hi => hi) (fun p hp => by
        rw [hnn] at hp
        obtain ⟨h8, h9⟩ := h4 p hp
        obtain ⟨⟨i, h10⟩, T', e', dp', h11⟩ := hnm p hp
        refine ⟨?_, h9⟩
        have hne : p.1 ≠ d := by rw [h10]; unfold nameOf; omega
        show (dropM d (putL nn _)).m p.1 = p.2
        rw [drop_other _ hne]
        rw [h8, h11]; rfl) (hzc.mono fun _ _ h => R1.of0 (h.rel _ _ _ _))) hn
      exact hK _ _ _ h6 (((Kept.dropIn S g _).trans h3).trans h7)
theorem d_box (h : SR w0 io E.ntmps S g a w) {o : Oper} {T d : Nat} {x : Operand} (ho : o.op = .box T x) (hd : o.dst = some d) {F : Eff}
    (hk : effK E (S.ev E) S.m o some = some F) : Does P E w0 io S g a w o F := by
  intro K Q hK
  have hrun : (execOp a.eval o).run P w = .ok (.value (.pointer (some ⟨w.heap.size, 0, none⟩))) (w.alloc (.cells (a.eval x).cells T)) := by
    simp [execOp, ho, Instr.box, newVar, newRow]
  unfold Oper.wp
  rw [hrun, Oper.upon_value, hd]
  rw [hd] at hK
  simp only [effK, ho, hd] at hk
  rcases cond_some hk with ⟨hn, hk⟩ | ⟨_, hk⟩
  rotate_left
  · cases hk
  simp only [Bool.and_eq_true] at hn
  injection hk with hk
  subst hk
  have hs := (solid_cells h.mem (ev_ok h T x) hn.2).1
  -- references behind the drop
  have hdr := h.drop d
  have hrel : ∀ (y : AV) (u : Value), R0 w (okOf w S.m g) S.m g y u → R0 w (okOf w (dropM d S.m).m g) (dropM d S.m).m g (dropF d y) u := by
    intro y u hy
    have hbl : ∀ j k, k ∈ blks ((dropM d S.m).m j) (g j) → k ∈ blks (S.m j) (g j) := fun j k hk => (KM.drop d j S.m).blks hk
    unfold dropF
    cases hh : y.has d with
    | true => exact trivial
    | false =>
      have hne : ∀ j, y.id? = some j → j ≠ d := fun j hj e => by rw [e] at hj; rw [has_iff.2 hj] at hh; cases hh
      exact R0.sim (fun k hk => ⟨⟨hk.1, hk.2.1, fun j hj => hk.2.2 j (hbl j k hj)⟩, rfl⟩) (fun j hj => Sim.lift (f := dropF d) (drop_other _ (hne j hj)) rfl) hy
  obtain ⟨g', h1, h2⟩ := h.newBox d ((S.ev E T x).cells.map (lift1 (dropF d))) (a.eval x).cells T (hs.map (f := lift1 (dropF d)) fun _ _ hr => R1.lift hrel hr) (Nat.le_of_ble_eq_true hn.1)
  exact hK _ _ _ h1 h2
end
end Go.Proofs.Ytckieogkaodkdaa.V
