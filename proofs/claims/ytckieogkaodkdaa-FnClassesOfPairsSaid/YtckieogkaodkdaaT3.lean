/- The functions of the program that these laws reach: what each computes, in plain terms, and that it does. Printed by gw.py. -/
import Derived.Test.YtckieogkaodkdaaWs
import Derived.Test.YtckieogkaodkdaaProg
set_option linter.unusedVariables false
set_option maxRecDepth 100000
namespace Go.Proofs.Ytckieogkaodkdaa.V
open Go
noncomputable section
def tyL : List (Nat × TI) := [(3, { known := true, kind := .int .i64, sz := 1, bytes := 8, ek := some (.int .i64), zero := [.d (.int .i64) (0 : Int)] }),
  (4, { known := true, kind := .bool, sz := 1, bytes := 1, ek := some .bool, zero := [.d .bool false] }),
  (5, { known := true, kind := .int .u8, sz := 1, bytes := 1, ek := some (.int .u8), zero := [.d (.int .u8) (0 : Int)] }),
  (22, { known := true, kind := .sl 5, sz := 1, bytes := 24, ek := some (.sl 5 (.int .u8)), zero := [.nilS 5 (.int .u8)] }),
  (26, { known := true, kind := .sl 32, sz := 1, bytes := 24, ek := some (.sl 32 (.sl 3 (.int .i64))), zero := [.nilS 32 (.sl 3 (.int .i64))] }),
  (32, { known := true, kind := .sl 3, sz := 1, bytes := 24, ek := some (.sl 3 (.int .i64)), zero := [.nilS 3 (.int .i64)] }),
  (104, { known := true, kind := .int .u64, sz := 1, bytes := 8, ek := some (.int .u64), zero := [.d (.int .u64) (0 : Int)] }),
  (106, { known := true, kind := .st [(0, 22), (1, 3), (2, 104)], sz := 3, bytes := 40, ek := some (.pr (.sl 5 (.int .u8)) (.pr (.int .i64) (.int .u64))), zero := [.nilS 5 (.int .u8), .d (.int .i64) (0 : Int), .d (.int .u64) (0 : Int)] }),
  (113, { known := true, kind := .arr 1001 4, sz := 1001, bytes := 1001, ek := none, zero := [] })]
def ty : Nat → TI := tyOf tyL
theorem ty3_ok : TyOK Try.prog 3 { known := true, kind := .int .i64, sz := 1, bytes := 8, ek := some (.int .i64), zero := [.d (.int .i64) (0 : Int)] } := ⟨⟨Try.t3, _, _, Try.type3, Try.underlying3, rfl, rfl, rfl, (fun _ => (.cons rfl .nil)), rfl, (fun n el h => by cases h)⟩, (.inr rfl), by decide, (by intro e he; cases he; exact ⟨rfl, rfl⟩)⟩
theorem ty4_ok : TyOK Try.prog 4 { known := true, kind := .bool, sz := 1, bytes := 1, ek := some .bool, zero := [.d .bool false] } := ⟨⟨Try.t4, _, _, Try.type4, Try.underlying4, rfl, rfl, rfl, (fun _ => (.cons rfl .nil)), rfl, (fun n el h => by cases h)⟩, (.inr rfl), by decide, (by intro e he; cases he; exact ⟨rfl, rfl⟩)⟩
theorem ty5_ok : TyOK Try.prog 5 { known := true, kind := .int .u8, sz := 1, bytes := 1, ek := some (.int .u8), zero := [.d (.int .u8) (0 : Int)] } := ⟨⟨Try.t5, _, _, Try.type5, Try.underlying5, rfl, rfl, rfl, (fun _ => (.cons rfl .nil)), rfl, (fun n el h => by cases h)⟩, (.inr rfl), by decide, (by intro e he; cases he; exact ⟨rfl, rfl⟩)⟩
theorem ty22_ok : TyOK Try.prog 22 { known := true, kind := .sl 5, sz := 1, bytes := 24, ek := some (.sl 5 (.int .u8)), zero := [.nilS 5 (.int .u8)] } := ⟨⟨Try.t22, _, _, Try.type22, Try.underlying22, rfl, rfl, rfl, (fun _ => (.cons rfl .nil)), rfl, (fun n el h => by cases h)⟩, (.inr rfl), by decide, (by intro e he; cases he; exact ⟨rfl, rfl⟩)⟩
theorem ty26_ok : TyOK Try.prog 26 { known := true, kind := .sl 32, sz := 1, bytes := 24, ek := some (.sl 32 (.sl 3 (.int .i64))), zero := [.nilS 32 (.sl 3 (.int .i64))] } := ⟨⟨Try.t26, _, _, Try.type26, Try.underlying26, rfl, rfl, rfl, (fun _ => (.cons rfl .nil)), rfl, (fun n el h => by cases h)⟩, (.inr rfl), by decide, (by intro e he; cases he; exact ⟨rfl, rfl⟩)⟩
theorem ty32_ok : TyOK Try.prog 32 { known := true, kind := .sl 3, sz := 1, bytes := 24, ek := some (.sl 3 (.int .i64)), zero := [.nilS 3 (.int .i64)] } := ⟨⟨Try.t32, _, _, Try.type32, Try.underlying32, rfl, rfl, rfl, (fun _ => (.cons rfl .nil)), rfl, (fun n el h => by cases h)⟩, (.inr rfl), by decide, (by intro e he; cases he; exact ⟨rfl, rfl⟩)⟩
theorem ty104_ok : TyOK Try.prog 104 { known := true, kind := .int .u64, sz := 1, bytes := 8, ek := some (.int .u64), zero := [.d (.int .u64) (0 : Int)] } := ⟨⟨Try.t104, _, _, Try.type104, Try.underlying104, rfl, rfl, rfl, (fun _ => (.cons rfl .nil)), rfl, (fun n el h => by cases h)⟩, (.inr rfl), by decide, (by intro e he; cases he; exact ⟨rfl, rfl⟩)⟩
theorem ty106_ok : TyOK Try.prog 106 { known := true, kind := .st [(0, 22), (1, 3), (2, 104)], sz := 3, bytes := 40, ek := some (.pr (.sl 5 (.int .u8)) (.pr (.int .i64) (.int .u64))), zero := [.nilS 5 (.int .u8), .d (.int .i64) (0 : Int), .d (.int .u64) (0 : Int)] } := ⟨⟨Try.t106, _, _, Try.type106, Try.underlying106, rfl, rfl, rfl, (fun _ => (.cons rfl (.cons rfl (.cons rfl .nil)))), ⟨_, rfl, rfl⟩, (fun n el h => by cases h)⟩, (.inl ⟨_, rfl⟩), by decide, (by intro e he; cases he; exact ⟨rfl, rfl⟩)⟩
theorem ty113_ok : TyOK Try.prog 113 { known := true, kind := .arr 1001 4, sz := 1001, bytes := 1001, ek := none, zero := [] } := ⟨⟨Try.t113, _, _, Try.type113, Try.underlying113, rfl, rfl, rfl, (fun h => by cases h), rfl, (fun n el h => by cases h; exact ⟨rfl, _, _, _, Try.type4, rfl, rfl, by kernel_rfl, rfl⟩)⟩, (.inr trivial), by decide, (by intro e he; cases he)⟩
theorem ty_ok : ∀ t, (ty t).known = true → TyOK Try.prog t (ty t) := tyOf_ok (by
  intro p hp
  simp only [tyL, List.mem_cons, List.not_mem_nil, or_false] at hp
  rcases hp with rfl | rfl | rfl | rfl | rfl | rfl | rfl | rfl | rfl
  · exact ty3_ok
  · exact ty4_ok
  · exact ty5_ok
  · exact ty22_ok
  · exact ty26_ok
  · exact ty32_ok
  · exact ty104_ok
  · exact ty106_ok
  · exact ty113_ok)
theorem mixed : Try.prog.follows .mixedOrders = true := by kernel_rfl
/-! laws.big -/
def F16 (x0 : (List Int)) (x1 : (List Int)) : Option (Bool × (Unit) × (Unit)) :=
  let v1 : Int := ((x0.length : Nat) : Int)
  let v2 : Bool := decide (v1 > 1048576)
  bif v2 then
    some (true, (), ())
  else
    let v3 : Int := ((x1.length : Nat) : Int)
    let v4 : Int := ((x0.length : Nat) : Int)
    let v5 : Int := IntKind.wrap .i64 (1048576 - v4)
    let v6 : Bool := decide (v3 > v5)
    some (v6, (), ())
@[reducible] def ff16 : FForm := ⟨[.a (.a (.dat (.sl 5 (.int .u8)))), .a (.a (.dat (.sl 5 (.int .u8))))], [], .a (.a (.a (.dat .bool))), []⟩
def G16 (x : ff16.X) : Option ff16.A := F16 x.1.1 x.1.2.1
noncomputable def cs16 : List (Nat × Spec) := []
noncomputable def E16 : Env := { ty := ty, ntmps := 16, nio := 2, objs := objOf [], loud := loudOf [], calls := specOf (cs16), muts := mutOf [], loops := loopOf [] }
theorem hc16 : ∀ f, CallOK Try.prog f (E16.calls f) := specOf_ok (by intro p hp; cases hp)
noncomputable def c16 : Code := bodyOf Try.f16
theorem S16 : CallOK Try.prog 16 (ff16.spec G16) := fn_ok (E := E16) (c := c16) (F := ff16) (G := G16) ty_ok (hc16) mixed Try.func16 (by kernel_rfl) (by kernel_rfl) (by kernel_rfl) (by kernel_rfl) (by kernel_rfl) (by kernel_rfl) (loops_nth 0 (by kernel_rfl) (fun i hi => absurd hi (Nat.not_lt_zero i))) (fun x => by kernel_rfl)
/-! (*spec.l1Cur).next -/
def F311 (x0 : (List Int)) (x1 : Int) (x2 : Int) : Option (Int × (((List Int) × Int × Int × Unit) × Unit) × (Unit)) :=
  let v1 : Int := ((x0.length : Nat) : Int)
  let v2 : Bool := decide (x1 < v1)
  bif v2 then
    bif decide (0 ≤ x1) then
      bif decide (x1 < ((x0.length : Nat) : Int)) then
        let v3 : Int := x0.getD (Int.toNat (x1)) 0
        let v4 : Int := IntKind.wrap .i64 v3
        let v5 : Int := IntKind.wrap .i64 (x1 + 1)
        let v6 : Int := IntKind.wrap .u64 (x2 * 6364136223846793005)
        let v7 : Int := IntKind.wrap .u64 v4
        let v8 : Int := IntKind.wrap .u64 (v6 + v7)
        let v9 : Int := IntKind.wrap .u64 (v8 + 1442695040888963407)
        let v10 : Int := ((x0.length : Nat) : Int)
        let v11 : Bool := decide (v5 ≤ v10)
        bif v11 then
          some (v4, ((x0, v5, v9, ()), ()), ())
        else
          let v12 : Int := (Int.fdiv v9 (2 ^ min (Int.toNat (40)) (IntKind.bits .u64)))
          let v13 : Int := IntKind.wrap .u64 ((BitVec.ofInt (IntKind.bits .u64) v12 &&& BitVec.ofInt (IntKind.bits .u64) 255).toNat : Int)
          let v14 : Int := IntKind.wrap .i64 v13
          some (v14, ((x0, v5, v9, ()), ()), ())
      else none
    else none
  else
    let v15 : Int := IntKind.wrap .i64 (x1 + 1)
    let v16 : Int := IntKind.wrap .u64 (x2 * 6364136223846793005)
    let v17 : Int := IntKind.wrap .u64 0
    let v18 : Int := IntKind.wrap .u64 (v16 + v17)
    let v19 : Int := IntKind.wrap .u64 (v18 + 1442695040888963407)
    let v20 : Int := ((x0.length : Nat) : Int)
    let v21 : Bool := decide (v15 ≤ v20)
    bif v21 then
      some (0, ((x0, v15, v19, ()), ()), ())
    else
      let v22 : Int := (Int.fdiv v19 (2 ^ min (Int.toNat (40)) (IntKind.bits .u64)))
      let v23 : Int := IntKind.wrap .u64 ((BitVec.ofInt (IntKind.bits .u64) v22 &&& BitVec.ofInt (IntKind.bits .u64) 255).toNat : Int)
      let v24 : Int := IntKind.wrap .i64 v23
      some (v24, ((x0, v15, v19, ()), ()), ())
@[reducible] def ff311 : FForm := ⟨[.a (.a (.ptr 0 0))], [(0, .box [.a (.dat (.sl 5 (.int .u8))), .a (.dat (.int .i64)), .a (.dat (.int .u64))])], .a (.a (.a (.dat (.int .i64)))), []⟩
def G311 (x : ff311.X) : Option ff311.A := F311 x.2.1.1 x.2.1.2.1 x.2.1.2.2.1
noncomputable def cs311 : List (Nat × Spec) := []
noncomputable def E311 : Env := { ty := ty, ntmps := 62, nio := 1, objs := objOf [], loud := loudOf [], calls := specOf (cs311), muts := mutOf [], loops := loopOf [] }
theorem hc311 : ∀ f, CallOK Try.prog f (E311.calls f) := specOf_ok (by intro p hp; cases hp)
noncomputable def c311 : Code := bodyOf Try.f311
theorem S311 : CallOK Try.prog 311 (ff311.spec G311) := fn_ok (E := E311) (c := c311) (F := ff311) (G := G311) ty_ok (hc311) mixed Try.func311 (by kernel_rfl) (by kernel_rfl) (by kernel_rfl) (by kernel_rfl) (by kernel_rfl) (by kernel_rfl) (loops_nth 0 (by kernel_rfl) (fun i hi => absurd hi (Nat.not_lt_zero i))) (fun x => by kernel_rfl)
/-! (*spec.l1Cur).pick -/
def F230 (x0 : Int) (x1 : (List Int)) (x2 : Int) (x3 : Int) : Option (Int × (((List Int) × Int × Int × Unit) × Unit) × (Unit)) :=
  let v1 : Bool := decide (x0 ≤ 1)
  bif v1 then
    some (0, ((x1, x2, x3, ()), ()), ())
  else
    Option.bind (F311 x1 x2 x3) fun r2 =>
    let v3 : Bool := decide (x0 > 200)
    bif v3 then
      let v4 : Int := IntKind.wrap .i64 (r2.1 * 256)
      Option.bind (F311 r2.2.1.1.1 r2.2.1.1.2.1 r2.2.1.1.2.2.1) fun r5 =>
      let v6 : Int := IntKind.wrap .i64 (v4 + r5.1)
      bif decide (x0 = 0) then
        none
      else
        let v7 : Int := Int.tmod v6 x0
        some (v7, ((r5.2.1.1.1, r5.2.1.1.2.1, r5.2.1.1.2.2.1, ()), ()), ())
    else
      bif decide (x0 = 0) then
        none
      else
        let v8 : Int := Int.tmod r2.1 x0
        some (v8, ((r2.2.1.1.1, r2.2.1.1.2.1, r2.2.1.1.2.2.1, ()), ()), ())
@[reducible] def ff230 : FForm := ⟨[.a (.a (.ptr 0 0)), .a (.a (.dat (.int .i64)))], [(0, .box [.a (.dat (.sl 5 (.int .u8))), .a (.dat (.int .i64)), .a (.dat (.int .u64))])], .a (.a (.a (.dat (.int .i64)))), []⟩
def G230 (x : ff230.X) : Option ff230.A := F230 x.1.2.1 x.2.1.1 x.2.1.2.1 x.2.1.2.2.1
noncomputable def cs230 : List (Nat × Spec) := [(311, (ff311.spec G311))]
noncomputable def E230 : Env := { ty := ty, ntmps := 20, nio := 2, objs := objOf [], loud := loudOf [], calls := specOf (cs230), muts := mutOf [], loops := loopOf [] }
theorem hc230 : ∀ f, CallOK Try.prog f ((E230).calls f) := specOf_ok (by
  intro p hp
  simp only [cs230, List.mem_cons, List.not_mem_nil, or_false] at hp
  rcases hp with rfl
  · exact S311)
noncomputable def c230 : Code := bodyOf Try.f230
theorem S230 : CallOK Try.prog 230 (ff230.spec G230) := fn_ok (E := E230) (c := c230) (F := ff230) (G := G230) ty_ok (hc230) mixed Try.func230 (by kernel_rfl) (by kernel_rfl) (by kernel_rfl) (by kernel_rfl) (by kernel_rfl) (by kernel_rfl) (loops_nth 0 (by kernel_rfl) (fun i hi => absurd hi (Nat.not_lt_zero i))) (fun x => by kernel_rfl)
/-! (*spec.l1Cur).among -/
def F212 (x0 : (List Int)) (x1 : (List Int)) (x2 : Int) (x3 : Int) : Option (Int × (((List Int) × Int × Int × Unit) × Unit) × (Unit)) :=
  let v1 : Int := ((x0.length : Nat) : Int)
  Option.bind (F230 v1 x1 x2 x3) fun r2 =>
  bif decide (0 ≤ r2.1) then
    bif decide (r2.1 < ((x0.length : Nat) : Int)) then
      let v3 : Int := x0.getD (Int.toNat (r2.1)) 0
      some (v3, ((r2.2.1.1.1, r2.2.1.1.2.1, r2.2.1.1.2.2.1, ()), ()), ())
    else none
  else none
@[reducible] def ff212 : FForm := ⟨[.a (.a (.ptr 0 0)), .a (.a (.dat (.sl 3 (.int .i64))))], [(0, .box [.a (.dat (.sl 5 (.int .u8))), .a (.dat (.int .i64)), .a (.dat (.int .u64))])], .a (.a (.a (.dat (.int .i64)))), []⟩
def G212 (x : ff212.X) : Option ff212.A := F212 x.1.2.1 x.2.1.1 x.2.1.2.1 x.2.1.2.2.1
noncomputable def cs212 : List (Nat × Spec) := [(230, (ff230.spec G230))]
noncomputable def E212 : Env := { ty := ty, ntmps := 12, nio := 2, objs := objOf [], loud := loudOf [], calls := specOf (cs212), muts := mutOf [], loops := loopOf [] }
theorem hc212 : ∀ f, CallOK Try.prog f ((E212).calls f) := specOf_ok (by
  intro p hp
  simp only [cs212, List.mem_cons, List.not_mem_nil, or_false] at hp
  rcases hp with rfl
  · exact S230)
noncomputable def c212 : Code := bodyOf Try.f212
theorem S212 : CallOK Try.prog 212 (ff212.spec G212) := fn_ok (E := E212) (c := c212) (F := ff212) (G := G212) ty_ok (hc212) mixed Try.func212 (by kernel_rfl) (by kernel_rfl) (by kernel_rfl) (by kernel_rfl) (by kernel_rfl) (by kernel_rfl) (loops_nth 0 (by kernel_rfl) (fun i hi => absurd hi (Nat.not_lt_zero i))) (fun x => by kernel_rfl)
/-! (*spec.l1Cur).looked -/
def F162 (x0 : (List Int)) (x1 : Int) (x2 : Int) : Option ((Int × Int × Int × Unit) × (((List Int) × Int × Int × Unit) × Unit) × (Unit)) :=
  Option.bind (F230 8 x0 x1 x2) fun r1 =>
  let v2 : Int := IntKind.wrap .i64 (1 + r1.1)
  Option.bind (F230 41 r1.2.1.1.1 r1.2.1.1.2.1 r1.2.1.1.2.2.1) fun r3 =>
  let v4 : Int := IntKind.wrap .i64 (r3.1 - 20)
  Option.bind (F230 60 r3.2.1.1.1 r3.2.1.1.2.1 r3.2.1.1.2.2.1) fun r5 =>
  Option.bind (F230 14 r5.2.1.1.1 r5.2.1.1.2.1 r5.2.1.1.2.2.1) fun r6 =>
  let v7 : Bool := (r6.1 == 0 : Bool)
  bif v7 then
    let v8 : List Int := [(-1), 0, 1000, 1001]
    Option.bind (F212 v8 r6.2.1.1.1 r6.2.1.1.2.1 r6.2.1.1.2.2.1) fun r9 =>
    some ((r9.1, v4, r5.1, ()), ((r9.2.1.1.1, r9.2.1.1.2.1, r9.2.1.1.2.2.1, ()), ()), ())
  else
    let v10 : Bool := (r6.1 == 1 : Bool)
    bif v10 then
      let v11 : List Int := [(-1001), (-1000), 1000, 1001]
      Option.bind (F212 v11 r6.2.1.1.1 r6.2.1.1.2.1 r6.2.1.1.2.2.1) fun r12 =>
      some ((v2, r12.1, r5.1, ()), ((r12.2.1.1.1, r12.2.1.1.2.1, r12.2.1.1.2.2.1, ()), ()), ())
    else
      let v13 : Bool := (r6.1 == 2 : Bool)
      bif v13 then
        let v14 : List Int := [(-1), 0, 200, 201]
        Option.bind (F212 v14 r6.2.1.1.1 r6.2.1.1.2.1 r6.2.1.1.2.2.1) fun r15 =>
        some ((v2, v4, r15.1, ()), ((r15.2.1.1.1, r15.2.1.1.2.1, r15.2.1.1.2.2.1, ()), ()), ())
      else
        let v16 : Bool := (r6.1 == 3 : Bool)
        bif v16 then
          let v17 : List Int := [0, 1, 4, 9]
          Option.bind (F212 v17 r6.2.1.1.1 r6.2.1.1.2.1 r6.2.1.1.2.2.1) fun r18 =>
          let v19 : Int := IntKind.wrap .i64 (0 - r18.1)
          some ((2, v19, r5.1, ()), ((r18.2.1.1.1, r18.2.1.1.2.1, r18.2.1.1.2.2.1, ()), ()), ())
        else some ((v2, v4, r5.1, ()), ((r6.2.1.1.1, r6.2.1.1.2.1, r6.2.1.1.2.2.1, ()), ()), ())
@[reducible] def ff162 : FForm := ⟨[.a (.a (.ptr 0 0))], [(0, .box [.a (.dat (.sl 5 (.int .u8))), .a (.dat (.int .i64)), .a (.dat (.int .u64))])], .tup [.a (.a (.dat (.int .i64))), .a (.a (.dat (.int .i64))), .a (.a (.dat (.int .i64)))], []⟩
def G162 (x : ff162.X) : Option ff162.A := F162 x.2.1.1 x.2.1.2.1 x.2.1.2.2.1
noncomputable def cs162 : List (Nat × Spec) := [(212, (ff212.spec G212)), (230, (ff230.spec G230))]
noncomputable def E162 : Env := { ty := ty, ntmps := 42, nio := 1, objs := objOf [], loud := loudOf [], calls := specOf (cs162), muts := mutOf [], loops := loopOf [] }
theorem hc162 : ∀ f, CallOK Try.prog f ((E162).calls f) := specOf_ok (by
  intro p hp
  simp only [cs162, List.mem_cons, List.not_mem_nil, or_false] at hp
  rcases hp with rfl | rfl
  · exact S212
  · exact S230)
noncomputable def c162 : Code := bodyOf Try.f162
theorem S162 : CallOK Try.prog 162 (ff162.spec G162) := fn_ok (E := E162) (c := c162) (F := ff162) (G := G162) ty_ok (hc162) mixed Try.func162 (by kernel_rfl) (by kernel_rfl) (by kernel_rfl) (by kernel_rfl) (by kernel_rfl) (by kernel_rfl) (loops_nth 0 (by kernel_rfl) (fun i hi => absurd hi (Nat.not_lt_zero i))) (fun x => by kernel_rfl)
/-! spec.DrawPairsUpTo -/
def F17 (x0 : (List Int)) : Option ((Int × Int × Int × Unit) × (Unit) × (Unit)) :=
  Option.bind (F162 x0 0 0) fun r1 =>
  some ((r1.1.1, r1.1.2.1, r1.1.2.2.1, ()), (), ())
@[reducible] def ff17 : FForm := ⟨[.a (.a (.dat (.sl 5 (.int .u8))))], [], .tup [.a (.a (.dat (.int .i64))), .a (.a (.dat (.int .i64))), .a (.a (.dat (.int .i64)))], []⟩
def G17 (x : ff17.X) : Option ff17.A := F17 x.1.1
noncomputable def cs17 : List (Nat × Spec) := [(162, (ff162.spec G162))]
noncomputable def E17 : Env := { ty := ty, ntmps := 14, nio := 1, objs := objOf [], loud := loudOf [], calls := specOf (cs17), muts := mutOf [], loops := loopOf [] }
theorem hc17 : ∀ f, CallOK Try.prog f ((E17).calls f) := specOf_ok (by
  intro p hp
  simp only [cs17, List.mem_cons, List.not_mem_nil, or_false] at hp
  rcases hp with rfl
  · exact S162)
noncomputable def c17 : Code := bodyOf Try.f17
theorem S17 : CallOK Try.prog 17 (ff17.spec G17) := fn_ok (E := E17) (c := c17) (F := ff17) (G := G17) ty_ok (hc17) mixed Try.func17 (by kernel_rfl) (by kernel_rfl) (by kernel_rfl) (by kernel_rfl) (by kernel_rfl) (by kernel_rfl) (loops_nth 0 (by kernel_rfl) (fun i hi => absurd hi (Nat.not_lt_zero i))) (fun x => by kernel_rfl)
/-! impl.within -/
def F169 (x0 : Int) (x1 : Int) (x2 : Int) : Option (Bool × (Unit) × (Unit)) :=
  let v1 : Bool := decide (x0 ≥ x1)
  bif v1 then
    let v2 : Bool := decide (x0 ≤ x2)
    some (v2, (), ())
  else some (false, (), ())
@[reducible] def ff169 : FForm := ⟨[.a (.a (.dat (.int .i64))), .a (.a (.dat (.int .i64))), .a (.a (.dat (.int .i64)))], [], .a (.a (.a (.dat .bool))), []⟩
def G169 (x : ff169.X) : Option ff169.A := F169 x.1.1 x.1.2.1 x.1.2.2.1
noncomputable def cs169 : List (Nat × Spec) := []
noncomputable def E169 : Env := { ty := ty, ntmps := 15, nio := 3, objs := objOf [], loud := loudOf [], calls := specOf (cs169), muts := mutOf [], loops := loopOf [] }
theorem hc169 : ∀ f, CallOK Try.prog f (E169.calls f) := specOf_ok (by intro p hp; cases hp)
noncomputable def c169 : Code := bodyOf Try.f169
theorem S169 : CallOK Try.prog 169 (ff169.spec G169) := fn_ok (E := E169) (c := c169) (F := ff169) (G := G169) ty_ok (hc169) mixed Try.func169 (by kernel_rfl) (by kernel_rfl) (by kernel_rfl) (by kernel_rfl) (by kernel_rfl) (by kernel_rfl) (loops_nth 0 (by kernel_rfl) (fun i hi => absurd hi (Nat.not_lt_zero i))) (fun x => by kernel_rfl)
/-! impl.areConstants -/
def F290 (x0 : Int) (x1 : Int) : Option (Bool × (Unit) × (Unit)) :=
  Option.bind (F169 x0 1 1000) fun r1 =>
  bif r1.1 then
    Option.bind (F169 x1 (-1000) 1000) fun r2 =>
    some (r2.1, (), ())
  else some (false, (), ())
@[reducible] def ff290 : FForm := ⟨[.a (.a (.dat (.int .i64))), .a (.a (.dat (.int .i64)))], [], .a (.a (.a (.dat .bool))), []⟩
def G290 (x : ff290.X) : Option ff290.A := F290 x.1.1 x.1.2.1
noncomputable def cs290 : List (Nat × Spec) := [(169, (ff169.spec G169))]
noncomputable def E290 : Env := { ty := ty, ntmps := 11, nio := 2, objs := objOf [], loud := loudOf [], calls := specOf (cs290), muts := mutOf [], loops := loopOf [] }
theorem hc290 : ∀ f, CallOK Try.prog f ((E290).calls f) := specOf_ok (by
  intro p hp
  simp only [cs290, List.mem_cons, List.not_mem_nil, or_false] at hp
  rcases hp with rfl
  · exact S169)
noncomputable def c290 : Code := bodyOf Try.f290
theorem S290 : CallOK Try.prog 290 (ff290.spec G290) := fn_ok (E := E290) (c := c290) (F := ff290) (G := G290) ty_ok (hc290) mixed Try.func290 (by kernel_rfl) (by kernel_rfl) (by kernel_rfl) (by kernel_rfl) (by kernel_rfl) (by kernel_rfl) (loops_nth 0 (by kernel_rfl) (fun i hi => absurd hi (Nat.not_lt_zero i))) (fun x => by kernel_rfl)
/-! impl.isJump -/
def F291 (x0 : Int) (x1 : Int) (x2 : Int) (x3 : Int) : Option (Bool × (Unit) × (Unit)) :=
  Option.bind (F169 x1 0 1000000) fun r1 =>
  bif r1.1 then
    Option.bind (F169 x0 x1 1000000) fun r2 =>
    bif r2.1 then
      let v3 : Int := IntKind.wrap .i64 (x0 * x0)
      let v4 : Int := IntKind.wrap .i64 (x1 * x1)
      let v5 : Int := IntKind.wrap .i64 (v3 + v4)
      let v6 : Int := IntKind.wrap .i64 (v5 + x3)
      let v7 : Int := IntKind.wrap .i64 (x2 * x0)
      let v8 : Int := IntKind.wrap .i64 (v7 * x1)
      let v9 : Bool := (v6 == v8 : Bool)
      some (v9, (), ())
    else some (false, (), ())
  else some (false, (), ())
@[reducible] def ff291 : FForm := ⟨[.a (.a (.dat (.int .i64))), .a (.a (.dat (.int .i64))), .a (.a (.dat (.int .i64))), .a (.a (.dat (.int .i64)))], [], .a (.a (.a (.dat .bool))), []⟩
def G291 (x : ff291.X) : Option ff291.A := F291 x.1.1 x.1.2.1 x.1.2.2.1 x.1.2.2.2.1
noncomputable def cs291 : List (Nat × Spec) := [(169, (ff169.spec G169))]
noncomputable def E291 : Env := { ty := ty, ntmps := 33, nio := 4, objs := objOf [], loud := loudOf [], calls := specOf (cs291), muts := mutOf [], loops := loopOf [] }
theorem hc291 : ∀ f, CallOK Try.prog f ((E291).calls f) := specOf_ok (by
  intro p hp
  simp only [cs291, List.mem_cons, List.not_mem_nil, or_false] at hp
  rcases hp with rfl
  · exact S169)
noncomputable def c291 : Code := bodyOf Try.f291
theorem S291 : CallOK Try.prog 291 (ff291.spec G291) := fn_ok (E := E291) (c := c291) (F := ff291) (G := G291) ty_ok (hc291) mixed Try.func291 (by kernel_rfl) (by kernel_rfl) (by kernel_rfl) (by kernel_rfl) (by kernel_rfl) (by kernel_rfl) (loops_nth 0 (by kernel_rfl) (fun i hi => absurd hi (Nat.not_lt_zero i))) (fun x => by kernel_rfl)
/-! impl.PairsUpTo$1 -/
def F164 (x0 : Int) (x1 : Int) : Option (Bool × (Unit) × (Unit)) :=
  some (true, (), ())
@[reducible] def ff164 : FForm := ⟨[.a (.a (.dat (.int .i64))), .a (.a (.dat (.int .i64)))], [], .a (.a (.a (.dat .bool))), []⟩
def G164 (x : ff164.X) : Option ff164.A := F164 x.1.1 x.1.2.1
noncomputable def cs164 : List (Nat × Spec) := []
noncomputable def E164 : Env := { ty := ty, ntmps := 5, nio := 2, objs := objOf [], loud := loudOf [], calls := specOf (cs164), muts := mutOf [], loops := loopOf [] }
theorem hc164 : ∀ f, CallOK Try.prog f (E164.calls f) := specOf_ok (by intro p hp; cases hp)
noncomputable def c164 : Code := bodyOf Try.f164
theorem S164 : CallOK Try.prog 164 (ff164.spec G164) := fn_ok (E := E164) (c := c164) (F := ff164) (G := G164) ty_ok (hc164) mixed Try.func164 (by kernel_rfl) (by kernel_rfl) (by kernel_rfl) (by kernel_rfl) (by kernel_rfl) (by kernel_rfl) (loops_nth 0 (by kernel_rfl) (fun i hi => absurd hi (Nat.not_lt_zero i))) (fun x => by kernel_rfl)
/-! impl.pairsBy -/
def B163_8 (x : ((Int × Int × (Unit) × Unit × Int × Int × Int × Int × Int × Unit) × ((List (List Int)) × Unit))) : Option (((Int × Int × (Unit) × Unit × Int × Int × Int × Int × Int × Unit) × ((List (List Int)) × Unit)) ⊕ (((Int × Int × (Unit) × Unit × Int × Int × Unit) × ((List (List Int)) × Unit)))) :=
  let a1 := x.1.1
  let a2 := x.1.2.1
  let a3 := x.1.2.2.2.2.1
  let a4 := x.1.2.2.2.2.2.1
  let a5 := x.1.2.2.2.2.2.2.1
  let a6 := x.1.2.2.2.2.2.2.2.1
  let a7 := x.1.2.2.2.2.2.2.2.2.1
  let a8 := x.2.1
  let v9 : Bool := decide (a7 < a6)
  bif v9 then
    Option.bind (F291 a3 a7 a1 a2) fun r10 =>
    bif r10.1 then
      Option.bind (F164 a3 a7) fun r11 =>
      bif r11.1 then
        let v12 : List Int := [a3, a7]
        let v13 : List (List Int) := [v12]
        bif fits (a8.length + v13.length) 24 then
          let v14 : List (List Int) := a8 ++ v13
          let v15 : Int := IntKind.wrap .i64 (a7 + 1)
          some (.inl ((a1, a2, (), (), a3, a4, a5, a6, v15, ()), (v14, ())))
        else none
      else
        let v16 : Int := IntKind.wrap .i64 (a7 + 1)
        some (.inl ((a1, a2, (), (), a3, a4, a5, a6, v16, ()), (a8, ())))
    else
      let v17 : Int := IntKind.wrap .i64 (a7 + 1)
      some (.inl ((a1, a2, (), (), a3, a4, a5, a6, v17, ()), (a8, ())))
  else some (.inr ((a1, a2, (), (), a4, a5, ()), (a8, ())))
def B163_5 (x : ((Int × Int × (Unit) × Unit × Int × Int × Unit) × ((List (List Int)) × Unit))) : Option (((Int × Int × (Unit) × Unit × Int × Int × Unit) × ((List (List Int)) × Unit)) ⊕ (((Unit × Unit) × ((List (List Int)) × Unit)))) :=
  let a1 := x.1.1
  let a2 := x.1.2.1
  let a3 := x.1.2.2.2.2.1
  let a4 := x.1.2.2.2.2.2.1
  let a5 := x.2.1
  let v6 : Bool := decide (a4 < a3)
  bif v6 then
    let v7 : Int := IntKind.wrap .i64 (a4 + 1)
    Option.bind (Loop B163_8 ((a1, a2, (), (), a4, a3, a4, v7, 0, ()), (a5, ()))) fun r8 =>
    let a9 := r8.1.1
    let a10 := r8.1.2.1
    let a11 := r8.1.2.2.2.2.1
    let a12 := r8.1.2.2.2.2.2.1
    let a13 := r8.2.1
    let v14 : Int := IntKind.wrap .i64 (a12 + 1)
    some (.inl ((a9, a10, (), (), a11, v14, ()), (a13, ())))
  else some (.inr (((), ()), (a5, ())))
def F163 (x0 : Int) (x1 : Int) (x2 : Int) : Option ((Unit × Bool × Unit) × (Unit) × ((List (List Int)) × Unit)) :=
  Option.bind (F290 x0 x1) fun r1 =>
  let v2 : Bool := !r1.1
  bif v2 then
    some (((), false, ()), (), (([] : List (List Int)), ()))
  else
    Option.bind (F169 x2 0 200) fun r3 =>
    let v4 : Bool := !r3.1
    bif v4 then
      some (((), false, ()), (), (([] : List (List Int)), ()))
    else
      let v5 : Int := IntKind.wrap .i64 (x2 + 1)
      Option.bind (Loop B163_5 ((x0, x1, (), (), v5, 0, ()), (([] : List (List Int)), ()))) fun r6 =>
      let a7 := r6.2.1
      let v8 : Int := ((a7.length : Nat) : Int)
      let v9 : Bool := decide (v8 > 1000)
      bif v9 then
        some (((), false, ()), (), (([] : List (List Int)), ()))
      else some (((), true, ()), (), (a7, ()))
@[reducible] def ff163 : FForm := ⟨[.a (.a (.dat (.int .i64))), .a (.a (.dat (.int .i64))), .a (.a (.dat (.int .i64))), .a (.fn 164 [])], [], .tup [.a (.a (.obj 8)), .a (.a (.dat .bool))], [(8, .obj 32 (.sl 3 (.int .i64)) 0)]⟩
def G163 (x : ff163.X) : Option ff163.A := F163 x.1.1 x.1.2.1 x.1.2.2.1
noncomputable def cs163 : List (Nat × Spec) := [(164, (ff164.spec G164)), (169, (ff169.spec G169)), (290, (ff290.spec G290)), (291, (ff291.spec G291))]
@[reducible] def lB163_8 : Form := ⟨[(0, .a (.a (.a (.dat (.int .i64))))), (1, .a (.a (.a (.dat (.int .i64))))), (3, .a (.a (.fn 164 []))), (10, .a (.a (.a (.obj 22)))), (11, .a (.a (.a (.dat (.int .i64))))), (24, .a (.a (.a (.dat (.int .i64))))), (25, .a (.a (.a (.dat (.int .i64))))), (29, .a (.a (.a (.dat (.int .i64))))), (30, .a (.a (.a (.dat (.int .i64)))))], [(22, .obj 32 (.sl 3 (.int .i64)) 0)]⟩
@[reducible] def oB163_8 : List (Nat × Form) := [(4, ⟨[(0, .a (.a (.a (.dat (.int .i64))))), (1, .a (.a (.a (.dat (.int .i64))))), (3, .a (.a (.fn 164 []))), (10, .a (.a (.a (.obj 22)))), (24, .a (.a (.a (.dat (.int .i64))))), (25, .a (.a (.a (.dat (.int .i64)))))], [(22, .obj 32 (.sl 3 (.int .i64)) 0)]⟩)]
@[reducible] def lB163_5 : Form := ⟨[(0, .a (.a (.a (.dat (.int .i64))))), (1, .a (.a (.a (.dat (.int .i64))))), (3, .a (.a (.fn 164 []))), (10, .a (.a (.a (.obj 22)))), (24, .a (.a (.a (.dat (.int .i64))))), (25, .a (.a (.a (.dat (.int .i64)))))], [(22, .obj 32 (.sl 3 (.int .i64)) 0)]⟩
@[reducible] def oB163_5 : List (Nat × Form) := [(2, ⟨[(10, .a (.a (.a (.obj 22))))], [(22, .obj 32 (.sl 3 (.int .i64)) 0)]⟩)]
noncomputable def E163 : Env := { ty := ty, ntmps := 56, nio := 4, objs := objOf [(8, 0), (22, 0)], loud := loudOf [], calls := specOf (cs163), muts := mutOf [], loops := loopOf [(8, loopSpec 4 lB163_8 oB163_8 B163_8), (5, loopSpec 4 lB163_5 oB163_5 B163_5)] }
theorem hc163 : ∀ f, CallOK Try.prog f ((E163).calls f) := specOf_ok (by
  intro p hp
  simp only [cs163, List.mem_cons, List.not_mem_nil, or_false] at hp
  rcases hp with rfl | rfl | rfl | rfl
  · exact S164
  · exact S169
  · exact S290
  · exact S291)
noncomputable def c163 : Code := bodyOf Try.f163
noncomputable def c163_0 : Code := (loopsOf c163).getD 0 .skip
noncomputable def c163_0_0 : Code := (loopsOf c163_0).getD 0 .skip
theorem L163_0_0 : LoopOK Try.prog (E163) c163_0_0 := loop_ok ty_ok (hc163) mixed (F := lB163_8) (outs := oB163_8) (B := B163_8) (by kernel_rfl) (by kernel_rfl) (by kernel_rfl) (loops_nth 0 (by kernel_rfl) (fun i hi => absurd hi (Nat.not_lt_zero i))) (fun x => by kernel_rfl)
theorem L163_0 : LoopOK Try.prog (E163) c163_0 := loop_ok ty_ok (hc163) mixed (F := lB163_5) (outs := oB163_5) (B := B163_5) (by kernel_rfl) (by kernel_rfl) (by kernel_rfl) (loops_nth 1 (by kernel_rfl) (fun i hi => match i, hi with | 0, _ => L163_0_0)) (fun x => by kernel_rfl)
theorem S163 : CallOK Try.prog 163 (ff163.spec G163) := fn_ok (E := E163) (c := c163) (F := ff163) (G := G163) ty_ok (hc163) mixed Try.func163 (by kernel_rfl) (by kernel_rfl) (by kernel_rfl) (by kernel_rfl) (by kernel_rfl) (by kernel_rfl) (loops_nth 1 (by kernel_rfl) (fun i hi => match i, hi with | 0, _ => L163_0)) (fun x => by kernel_rfl)
/-! impl.PairsUpTo -/
def F18 (x0 : Int) (x1 : Int) (x2 : Int) : Option (((List (List Int)) × Bool × Unit) × (Unit) × (Unit)) :=
  Option.bind (F163 x0 x1 x2) fun r1 =>
  some ((r1.2.2.1, r1.1.2.1, ()), (), ())
@[reducible] def ff18 : FForm := ⟨[.a (.a (.dat (.int .i64))), .a (.a (.dat (.int .i64))), .a (.a (.dat (.int .i64)))], [], .tup [.a (.a (.dat (.sl 32 (.sl 3 (.int .i64))))), .a (.a (.dat .bool))], []⟩
def G18 (x : ff18.X) : Option ff18.A := F18 x.1.1 x.1.2.1 x.1.2.2.1
noncomputable def cs18 : List (Nat × Spec) := [(163, (ff163.spec G163))]
noncomputable def E18 : Env := { ty := ty, ntmps := 14, nio := 3, objs := objOf [], loud := loudOf [], calls := specOf (cs18), muts := mutOf [], loops := loopOf [] }
theorem hc18 : ∀ f, CallOK Try.prog f ((E18).calls f) := specOf_ok (by
  intro p hp
  simp only [cs18, List.mem_cons, List.not_mem_nil, or_false] at hp
  rcases hp with rfl
  · exact S163)
noncomputable def c18 : Code := bodyOf Try.f18
theorem S18 : CallOK Try.prog 18 (ff18.spec G18) := fn_ok (E := E18) (c := c18) (F := ff18) (G := G18) ty_ok (hc18) mixed Try.func18 (by kernel_rfl) (by kernel_rfl) (by kernel_rfl) (by kernel_rfl) (by kernel_rfl) (by kernel_rfl) (loops_nth 0 (by kernel_rfl) (fun i hi => absurd hi (Nat.not_lt_zero i))) (fun x => by kernel_rfl)
/-! spec.l1In -/
def F173 (x0 : Int) (x1 : Int) (x2 : Int) : Option (Bool × (Unit) × (Unit)) :=
  let v1 : Bool := decide (x0 ≥ x1)
  bif v1 then
    let v2 : Bool := decide (x0 ≤ x2)
    some (v2, (), ())
  else some (false, (), ())
@[reducible] def ff173 : FForm := ⟨[.a (.a (.dat (.int .i64))), .a (.a (.dat (.int .i64))), .a (.a (.dat (.int .i64)))], [], .a (.a (.a (.dat .bool))), []⟩
def G173 (x : ff173.X) : Option ff173.A := F173 x.1.1 x.1.2.1 x.1.2.2.1
noncomputable def cs173 : List (Nat × Spec) := []
noncomputable def E173 : Env := { ty := ty, ntmps := 15, nio := 3, objs := objOf [], loud := loudOf [], calls := specOf (cs173), muts := mutOf [], loops := loopOf [] }
theorem hc173 : ∀ f, CallOK Try.prog f (E173.calls f) := specOf_ok (by intro p hp; cases hp)
noncomputable def c173 : Code := bodyOf Try.f173
theorem S173 : CallOK Try.prog 173 (ff173.spec G173) := fn_ok (E := E173) (c := c173) (F := ff173) (G := G173) ty_ok (hc173) mixed Try.func173 (by kernel_rfl) (by kernel_rfl) (by kernel_rfl) (by kernel_rfl) (by kernel_rfl) (by kernel_rfl) (loops_nth 0 (by kernel_rfl) (fun i hi => absurd hi (Nat.not_lt_zero i))) (fun x => by kernel_rfl)
/-! spec.juGiven -/
def F174 (x0 : Int) (x1 : Int) : Option (Bool × (Unit) × (Unit)) :=
  Option.bind (F173 x0 1 1000) fun r1 =>
  bif r1.1 then
    Option.bind (F173 x1 (-1000) 1000) fun r2 =>
    some (r2.1, (), ())
  else some (false, (), ())
@[reducible] def ff174 : FForm := ⟨[.a (.a (.dat (.int .i64))), .a (.a (.dat (.int .i64)))], [], .a (.a (.a (.dat .bool))), []⟩
def G174 (x : ff174.X) : Option ff174.A := F174 x.1.1 x.1.2.1
noncomputable def cs174 : List (Nat × Spec) := [(173, (ff173.spec G173))]
noncomputable def E174 : Env := { ty := ty, ntmps := 11, nio := 2, objs := objOf [], loud := loudOf [], calls := specOf (cs174), muts := mutOf [], loops := loopOf [] }
theorem hc174 : ∀ f, CallOK Try.prog f ((E174).calls f) := specOf_ok (by
  intro p hp
  simp only [cs174, List.mem_cons, List.not_mem_nil, or_false] at hp
  rcases hp with rfl
  · exact S173)
noncomputable def c174 : Code := bodyOf Try.f174
theorem S174 : CallOK Try.prog 174 (ff174.spec G174) := fn_ok (E := E174) (c := c174) (F := ff174) (G := G174) ty_ok (hc174) mixed Try.func174 (by kernel_rfl) (by kernel_rfl) (by kernel_rfl) (by kernel_rfl) (by kernel_rfl) (by kernel_rfl) (loops_nth 0 (by kernel_rfl) (fun i hi => absurd hi (Nat.not_lt_zero i))) (fun x => by kernel_rfl)
/-! spec.juTask -/
def F165 (x0 : Int) (x1 : Int) (x2 : Int) : Option (Bool × (Unit) × (Unit)) :=
  Option.bind (F174 x0 x1) fun r1 =>
  bif r1.1 then
    Option.bind (F173 x2 0 200) fun r2 =>
    some (r2.1, (), ())
  else some (false, (), ())
@[reducible] def ff165 : FForm := ⟨[.a (.a (.dat (.int .i64))), .a (.a (.dat (.int .i64))), .a (.a (.dat (.int .i64)))], [], .a (.a (.a (.dat .bool))), []⟩
def G165 (x : ff165.X) : Option ff165.A := F165 x.1.1 x.1.2.1 x.1.2.2.1
noncomputable def cs165 : List (Nat × Spec) := [(173, (ff173.spec G173)), (174, (ff174.spec G174))]
noncomputable def E165 : Env := { ty := ty, ntmps := 14, nio := 3, objs := objOf [], loud := loudOf [], calls := specOf (cs165), muts := mutOf [], loops := loopOf [] }
theorem hc165 : ∀ f, CallOK Try.prog f ((E165).calls f) := specOf_ok (by
  intro p hp
  simp only [cs165, List.mem_cons, List.not_mem_nil, or_false] at hp
  rcases hp with rfl | rfl
  · exact S173
  · exact S174)
noncomputable def c165 : Code := bodyOf Try.f165
theorem S165 : CallOK Try.prog 165 (ff165.spec G165) := fn_ok (E := E165) (c := c165) (F := ff165) (G := G165) ty_ok (hc165) mixed Try.func165 (by kernel_rfl) (by kernel_rfl) (by kernel_rfl) (by kernel_rfl) (by kernel_rfl) (by kernel_rfl) (loops_nth 0 (by kernel_rfl) (fun i hi => absurd hi (Nat.not_lt_zero i))) (fun x => by kernel_rfl)
/-! spec.juGood -/
def F175 (x0 : Int) (x1 : Int) (x2 : Int) (x3 : Int) : Option (Bool × (Unit) × (Unit)) :=
  Option.bind (F173 x0 0 1000000) fun r1 =>
  bif r1.1 then
    Option.bind (F173 x1 0 x0) fun r2 =>
    bif r2.1 then
      let v3 : Int := IntKind.wrap .i64 (x0 * x0)
      let v4 : Int := IntKind.wrap .i64 (x1 * x1)
      let v5 : Int := IntKind.wrap .i64 (v3 + v4)
      let v6 : Int := IntKind.wrap .i64 (v5 + x3)
      let v7 : Int := IntKind.wrap .i64 (x2 * x0)
      let v8 : Int := IntKind.wrap .i64 (v7 * x1)
      let v9 : Bool := (v6 == v8 : Bool)
      some (v9, (), ())
    else some (false, (), ())
  else some (false, (), ())
@[reducible] def ff175 : FForm := ⟨[.a (.a (.dat (.int .i64))), .a (.a (.dat (.int .i64))), .a (.a (.dat (.int .i64))), .a (.a (.dat (.int .i64)))], [], .a (.a (.a (.dat .bool))), []⟩
def G175 (x : ff175.X) : Option ff175.A := F175 x.1.1 x.1.2.1 x.1.2.2.1 x.1.2.2.2.1
noncomputable def cs175 : List (Nat × Spec) := [(173, (ff173.spec G173))]
noncomputable def E175 : Env := { ty := ty, ntmps := 33, nio := 4, objs := objOf [], loud := loudOf [], calls := specOf (cs175), muts := mutOf [], loops := loopOf [] }
theorem hc175 : ∀ f, CallOK Try.prog f ((E175).calls f) := specOf_ok (by
  intro p hp
  simp only [cs175, List.mem_cons, List.not_mem_nil, or_false] at hp
  rcases hp with rfl
  · exact S173)
noncomputable def c175 : Code := bodyOf Try.f175
theorem S175 : CallOK Try.prog 175 (ff175.spec G175) := fn_ok (E := E175) (c := c175) (F := ff175) (G := G175) ty_ok (hc175) mixed Try.func175 (by kernel_rfl) (by kernel_rfl) (by kernel_rfl) (by kernel_rfl) (by kernel_rfl) (by kernel_rfl) (loops_nth 0 (by kernel_rfl) (fun i hi => absurd hi (Nat.not_lt_zero i))) (fun x => by kernel_rfl)
/-! spec.juDown -/
def F292 (x0 : Int) (x1 : Int) (x2 : Int) : Option ((Int × Int × Bool × Unit) × (Unit) × (Unit)) :=
  let v1 : Int := IntKind.wrap .i64 (x2 * x1)
  let v2 : Int := IntKind.wrap .i64 (v1 - x0)
  let v3 : Int := IntKind.wrap .i64 (x0 - 1)
  Option.bind (F173 v2 0 v3) fun r4 =>
  let v5 : Bool := !r4.1
  bif v5 then
    some ((0, 0, false, ()), (), ())
  else
    let v6 : Bool := decide (v2 < x1)
    bif v6 then
      some ((x1, v2, true, ()), (), ())
    else some ((v2, x1, true, ()), (), ())
@[reducible] def ff292 : FForm := ⟨[.a (.a (.dat (.int .i64))), .a (.a (.dat (.int .i64))), .a (.a (.dat (.int .i64)))], [], .tup [.a (.a (.dat (.int .i64))), .a (.a (.dat (.int .i64))), .a (.a (.dat .bool))], []⟩
def G292 (x : ff292.X) : Option ff292.A := F292 x.1.1 x.1.2.1 x.1.2.2.1
noncomputable def cs292 : List (Nat × Spec) := [(173, (ff173.spec G173))]
noncomputable def E292 : Env := { ty := ty, ntmps := 29, nio := 3, objs := objOf [], loud := loudOf [], calls := specOf (cs292), muts := mutOf [], loops := loopOf [] }
theorem hc292 : ∀ f, CallOK Try.prog f ((E292).calls f) := specOf_ok (by
  intro p hp
  simp only [cs292, List.mem_cons, List.not_mem_nil, or_false] at hp
  rcases hp with rfl
  · exact S173)
noncomputable def c292 : Code := bodyOf Try.f292
theorem S292 : CallOK Try.prog 292 (ff292.spec G292) := fn_ok (E := E292) (c := c292) (F := ff292) (G := G292) ty_ok (hc292) mixed Try.func292 (by kernel_rfl) (by kernel_rfl) (by kernel_rfl) (by kernel_rfl) (by kernel_rfl) (by kernel_rfl) (loops_nth 0 (by kernel_rfl) (fun i hi => absurd hi (Nat.not_lt_zero i))) (fun x => by kernel_rfl)
/-! spec.juUpTo -/
def B166_6 (x : ((Int × Int × Int × Bool × Unit × Int × Int × Unit) × ((List (List Int)) × Unit))) : Option (((Int × Int × Int × Bool × Unit × Int × Int × Unit) × ((List (List Int)) × Unit)) ⊕ (((Int × Int × Int × Bool × Unit × Int × Unit) × ((List (List Int)) × Unit)))) :=
  let a1 := x.1.1
  let a2 := x.1.2.1
  let a3 := x.1.2.2.1
  let a4 := x.1.2.2.2.1
  let a5 := x.1.2.2.2.2.2.1
  let a6 := x.1.2.2.2.2.2.2.1
  let a7 := x.2.1
  let v8 : Bool := decide (a6 ≤ a5)
  bif v8 then
    Option.bind (F175 a5 a6 a1 a2) fun r9 =>
    let v10 : Bool := !r9.1
    bif v10 then
      let v11 : Int := IntKind.wrap .i64 (a6 + 1)
      some (.inl ((a1, a2, a3, a4, (), a5, v11, ()), (a7, ())))
    else
      Option.bind (F292 a5 a6 a1) fun r12 =>
      let v13 : Bool := !a4
      bif v13 then
        let v14 : List Int := [a5, a6]
        let v15 : List (List Int) := [v14]
        bif fits (a7.length + v15.length) 24 then
          let v16 : List (List Int) := a7 ++ v15
          let v17 : Int := IntKind.wrap .i64 (a6 + 1)
          some (.inl ((a1, a2, a3, a4, (), a5, v17, ()), (v16, ())))
        else none
      else
        let v18 : Bool := !r12.1.2.2.1
        bif v18 then
          let v19 : List Int := [a5, a6]
          let v20 : List (List Int) := [v19]
          bif fits (a7.length + v20.length) 24 then
            let v21 : List (List Int) := a7 ++ v20
            let v22 : Int := IntKind.wrap .i64 (a6 + 1)
            some (.inl ((a1, a2, a3, a4, (), a5, v22, ()), (v21, ())))
          else none
        else
          let v23 : Int := IntKind.wrap .i64 (a6 + 1)
          some (.inl ((a1, a2, a3, a4, (), a5, v23, ()), (a7, ())))
  else some (.inr ((a1, a2, a3, a4, (), a5, ()), (a7, ())))
def B166_3 (x : ((Int × Int × Int × Bool × Unit × Int × Unit) × ((List (List Int)) × Unit))) : Option (((Int × Int × Int × Bool × Unit × Int × Unit) × ((List (List Int)) × Unit)) ⊕ (((Unit × Unit) × ((List (List Int)) × Unit)))) :=
  let a1 := x.1.1
  let a2 := x.1.2.1
  let a3 := x.1.2.2.1
  let a4 := x.1.2.2.2.1
  let a5 := x.1.2.2.2.2.2.1
  let a6 := x.2.1
  let v7 : Bool := decide (a5 ≤ a3)
  bif v7 then
    Option.bind (Loop B166_6 ((a1, a2, a3, a4, (), a5, 0, ()), (a6, ()))) fun r8 =>
    let a9 := r8.1.1
    let a10 := r8.1.2.1
    let a11 := r8.1.2.2.1
    let a12 := r8.1.2.2.2.1
    let a13 := r8.1.2.2.2.2.2.1
    let a14 := r8.2.1
    let v15 : Int := IntKind.wrap .i64 (a13 + 1)
    some (.inl ((a9, a10, a11, a12, (), v15, ()), (a14, ())))
  else some (.inr (((), ()), (a6, ())))
def F166 (x0 : Int) (x1 : Int) (x2 : Int) (x3 : Bool) : Option (Unit × (Unit) × ((List (List Int)) × Unit)) :=
  Option.bind (Loop B166_3 ((x0, x1, x2, x3, (), 0, ()), (([] : List (List Int)), ()))) fun r1 =>
  let a2 := r1.2.1
  some ((), (), (a2, ()))
@[reducible] def ff166 : FForm := ⟨[.a (.a (.dat (.int .i64))), .a (.a (.dat (.int .i64))), .a (.a (.dat (.int .i64))), .a (.a (.dat .bool))], [], .a (.a (.a (.obj 8))), [(8, .obj 32 (.sl 3 (.int .i64)) 0)]⟩
def G166 (x : ff166.X) : Option ff166.A := F166 x.1.1 x.1.2.1 x.1.2.2.1 x.1.2.2.2.1
noncomputable def cs166 : List (Nat × Spec) := [(175, (ff175.spec G175)), (292, (ff292.spec G292))]
@[reducible] def lB166_6 : Form := ⟨[(0, .a (.a (.a (.dat (.int .i64))))), (1, .a (.a (.a (.dat (.int .i64))))), (2, .a (.a (.a (.dat (.int .i64))))), (3, .a (.a (.a (.dat .bool)))), (9, .a (.a (.a (.obj 9)))), (10, .a (.a (.a (.dat (.int .i64))))), (11, .a (.a (.a (.dat (.int .i64)))))], [(9, .obj 32 (.sl 3 (.int .i64)) 0)]⟩
@[reducible] def oB166_6 : List (Nat × Form) := [(4, ⟨[(0, .a (.a (.a (.dat (.int .i64))))), (1, .a (.a (.a (.dat (.int .i64))))), (2, .a (.a (.a (.dat (.int .i64))))), (3, .a (.a (.a (.dat .bool)))), (9, .a (.a (.a (.obj 9)))), (10, .a (.a (.a (.dat (.int .i64)))))], [(9, .obj 32 (.sl 3 (.int .i64)) 0)]⟩)]
@[reducible] def lB166_3 : Form := ⟨[(0, .a (.a (.a (.dat (.int .i64))))), (1, .a (.a (.a (.dat (.int .i64))))), (2, .a (.a (.a (.dat (.int .i64))))), (3, .a (.a (.a (.dat .bool)))), (9, .a (.a (.a (.obj 9)))), (10, .a (.a (.a (.dat (.int .i64)))))], [(9, .obj 32 (.sl 3 (.int .i64)) 0)]⟩
@[reducible] def oB166_3 : List (Nat × Form) := [(2, ⟨[(9, .a (.a (.a (.obj 9))))], [(9, .obj 32 (.sl 3 (.int .i64)) 0)]⟩)]
noncomputable def E166 : Env := { ty := ty, ntmps := 52, nio := 4, objs := objOf [(8, 0), (9, 0)], loud := loudOf [], calls := specOf (cs166), muts := mutOf [], loops := loopOf [(6, loopSpec 4 lB166_6 oB166_6 B166_6), (3, loopSpec 4 lB166_3 oB166_3 B166_3)] }
theorem hc166 : ∀ f, CallOK Try.prog f ((E166).calls f) := specOf_ok (by
  intro p hp
  simp only [cs166, List.mem_cons, List.not_mem_nil, or_false] at hp
  rcases hp with rfl | rfl
  · exact S175
  · exact S292)
noncomputable def c166 : Code := bodyOf Try.f166
noncomputable def c166_0 : Code := (loopsOf c166).getD 0 .skip
noncomputable def c166_0_0 : Code := (loopsOf c166_0).getD 0 .skip
theorem L166_0_0 : LoopOK Try.prog (E166) c166_0_0 := loop_ok ty_ok (hc166) mixed (F := lB166_6) (outs := oB166_6) (B := B166_6) (by kernel_rfl) (by kernel_rfl) (by kernel_rfl) (loops_nth 0 (by kernel_rfl) (fun i hi => absurd hi (Nat.not_lt_zero i))) (fun x => by kernel_rfl)
theorem L166_0 : LoopOK Try.prog (E166) c166_0 := loop_ok ty_ok (hc166) mixed (F := lB166_3) (outs := oB166_3) (B := B166_3) (by kernel_rfl) (by kernel_rfl) (by kernel_rfl) (loops_nth 1 (by kernel_rfl) (fun i hi => match i, hi with | 0, _ => L166_0_0)) (fun x => by kernel_rfl)
theorem S166 : CallOK Try.prog 166 (ff166.spec G166) := fn_ok (E := E166) (c := c166) (F := ff166) (G := G166) ty_ok (hc166) mixed Try.func166 (by kernel_rfl) (by kernel_rfl) (by kernel_rfl) (by kernel_rfl) (by kernel_rfl) (by kernel_rfl) (loops_nth 1 (by kernel_rfl) (fun i hi => match i, hi with | 0, _ => L166_0)) (fun x => by kernel_rfl)
/-! spec.PairsUpTo -/
def F19 (x0 : Int) (x1 : Int) (x2 : Int) : Option (((List (List Int)) × Bool × Unit) × (Unit) × (Unit)) :=
  Option.bind (F165 x0 x1 x2) fun r1 =>
  let v2 : Bool := !r1.1
  bif v2 then
    some ((([] : List (List Int)), false, ()), (), ())
  else
    Option.bind (F166 x0 x1 x2 false) fun r3 =>
    let v4 : Int := ((r3.2.2.1.length : Nat) : Int)
    let v5 : Bool := decide (v4 > 1000)
    bif v5 then
      some ((([] : List (List Int)), false, ()), (), ())
    else some ((r3.2.2.1, true, ()), (), ())
@[reducible] def ff19 : FForm := ⟨[.a (.a (.dat (.int .i64))), .a (.a (.dat (.int .i64))), .a (.a (.dat (.int .i64)))], [], .tup [.a (.a (.dat (.sl 32 (.sl 3 (.int .i64))))), .a (.a (.dat .bool))], []⟩
def G19 (x : ff19.X) : Option ff19.A := F19 x.1.1 x.1.2.1 x.1.2.2.1
noncomputable def cs19 : List (Nat × Spec) := [(165, (ff165.spec G165)), (166, (ff166.spec G166))]
noncomputable def E19 : Env := { ty := ty, ntmps := 22, nio := 3, objs := objOf [], loud := loudOf [], calls := specOf (cs19), muts := mutOf [], loops := loopOf [] }
theorem hc19 : ∀ f, CallOK Try.prog f ((E19).calls f) := specOf_ok (by
  intro p hp
  simp only [cs19, List.mem_cons, List.not_mem_nil, or_false] at hp
  rcases hp with rfl | rfl
  · exact S165
  · exact S166)
noncomputable def c19 : Code := bodyOf Try.f19
theorem S19 : CallOK Try.prog 19 (ff19.spec G19) := fn_ok (E := E19) (c := c19) (F := ff19) (G := G19) ty_ok (hc19) mixed Try.func19 (by kernel_rfl) (by kernel_rfl) (by kernel_rfl) (by kernel_rfl) (by kernel_rfl) (by kernel_rfl) (loops_nth 0 (by kernel_rfl) (fun i hi => absurd hi (Nat.not_lt_zero i))) (fun x => by kernel_rfl)
/-! impl.jumpDown -/
def F168 (x0 : Int) (x1 : Int) (x2 : Int) : Option ((Int × Int × Bool × Unit) × (Unit) × (Unit)) :=
  let v1 : Int := IntKind.wrap .i64 (x2 * x1)
  let v2 : Int := IntKind.wrap .i64 (v1 - x0)
  let v3 : Bool := decide (v2 < 0)
  bif v3 then
    some ((0, 0, false, ()), (), ())
  else
    let v4 : Bool := decide (v2 ≥ x0)
    bif v4 then
      some ((0, 0, false, ()), (), ())
    else
      let v5 : Int := bif decide (v2 < x1) then x1 else v2
      let v6 : Int := bif decide (x1 < v2) then x1 else v2
      some ((v5, v6, true, ()), (), ())
@[reducible] def ff168 : FForm := ⟨[.a (.a (.dat (.int .i64))), .a (.a (.dat (.int .i64))), .a (.a (.dat (.int .i64)))], [], .tup [.a (.a (.dat (.int .i64))), .a (.a (.dat (.int .i64))), .a (.a (.dat .bool))], []⟩
def G168 (x : ff168.X) : Option ff168.A := F168 x.1.1 x.1.2.1 x.1.2.2.1
noncomputable def cs168 : List (Nat × Spec) := []
noncomputable def E168 : Env := { ty := ty, ntmps := 28, nio := 3, objs := objOf [], loud := loudOf [], calls := specOf (cs168), muts := mutOf [], loops := loopOf [] }
theorem hc168 : ∀ f, CallOK Try.prog f (E168.calls f) := specOf_ok (by intro p hp; cases hp)
noncomputable def c168 : Code := bodyOf Try.f168
theorem S168 : CallOK Try.prog 168 (ff168.spec G168) := fn_ok (E := E168) (c := c168) (F := ff168) (G := G168) ty_ok (hc168) mixed Try.func168 (by kernel_rfl) (by kernel_rfl) (by kernel_rfl) (by kernel_rfl) (by kernel_rfl) (by kernel_rfl) (loops_nth 0 (by kernel_rfl) (fun i hi => absurd hi (Nat.not_lt_zero i))) (fun x => by kernel_rfl)
/-! impl.ClassesUpTo$1 -/
def F167 (x0 : Int) (x1 : Int) (x2 : Int) : Option (Bool × (Unit) × (Unit)) :=
  Option.bind (F168 x0 x1 x2) fun r1 =>
  let v2 : Bool := !r1.1.2.2.1
  some (v2, (), ())
@[reducible] def ff167 : FForm := ⟨[.a (.a (.dat (.int .i64))), .a (.a (.dat (.int .i64))), .a (.a (.cells [(.int .i64)]))], [], .a (.a (.a (.dat .bool))), []⟩
def G167 (x : ff167.X) : Option ff167.A := F167 x.1.1 x.1.2.1 x.1.2.2.1.1
noncomputable def cs167 : List (Nat × Spec) := [(168, (ff168.spec G168))]
noncomputable def E167 : Env := { ty := ty, ntmps := 19, nio := 3, objs := objOf [], loud := loudOf [], calls := specOf (cs167), muts := mutOf [], loops := loopOf [] }
theorem hc167 : ∀ f, CallOK Try.prog f ((E167).calls f) := specOf_ok (by
  intro p hp
  simp only [cs167, List.mem_cons, List.not_mem_nil, or_false] at hp
  rcases hp with rfl
  · exact S168)
noncomputable def c167 : Code := bodyOf Try.f167
theorem S167 : CallOK Try.prog 167 (ff167.spec G167) := fn_ok (E := E167) (c := c167) (F := ff167) (G := G167) ty_ok (hc167) mixed Try.func167 (by kernel_rfl) (by kernel_rfl) (by kernel_rfl) (by kernel_rfl) (by kernel_rfl) (by kernel_rfl) (loops_nth 0 (by kernel_rfl) (fun i hi => absurd hi (Nat.not_lt_zero i))) (fun x => by kernel_rfl)
/-! impl.pairsBy -/
def B163x1_8 (x : ((Int × Int × ((Int × Unit) × Unit) × Unit × Int × Int × Int × Int × Int × Unit) × ((List (List Int)) × Unit))) : Option (((Int × Int × ((Int × Unit) × Unit) × Unit × Int × Int × Int × Int × Int × Unit) × ((List (List Int)) × Unit)) ⊕ (((Int × Int × ((Int × Unit) × Unit) × Unit × Int × Int × Unit) × ((List (List Int)) × Unit)))) :=
  let a1 := x.1.1
  let a2 := x.1.2.1
  let a3 := x.1.2.2.1.1.1
  let a4 := x.1.2.2.2.2.1
  let a5 := x.1.2.2.2.2.2.1
  let a6 := x.1.2.2.2.2.2.2.1
  let a7 := x.1.2.2.2.2.2.2.2.1
  let a8 := x.1.2.2.2.2.2.2.2.2.1
  let a9 := x.2.1
  let v10 : Bool := decide (a8 < a7)
  bif v10 then
    Option.bind (F291 a4 a8 a1 a2) fun r11 =>
    bif r11.1 then
      Option.bind (F167 a4 a8 a3) fun r12 =>
      bif r12.1 then
        let v13 : List Int := [a4, a8]
        let v14 : List (List Int) := [v13]
        bif fits (a9.length + v14.length) 24 then
          let v15 : List (List Int) := a9 ++ v14
          let v16 : Int := IntKind.wrap .i64 (a8 + 1)
          some (.inl ((a1, a2, ((a3, ()), ()), (), a4, a5, a6, a7, v16, ()), (v15, ())))
        else none
      else
        let v17 : Int := IntKind.wrap .i64 (a8 + 1)
        some (.inl ((a1, a2, ((a3, ()), ()), (), a4, a5, a6, a7, v17, ()), (a9, ())))
    else
      let v18 : Int := IntKind.wrap .i64 (a8 + 1)
      some (.inl ((a1, a2, ((a3, ()), ()), (), a4, a5, a6, a7, v18, ()), (a9, ())))
  else some (.inr ((a1, a2, ((a3, ()), ()), (), a5, a6, ()), (a9, ())))
def B163x1_5 (x : ((Int × Int × ((Int × Unit) × Unit) × Unit × Int × Int × Unit) × ((List (List Int)) × Unit))) : Option (((Int × Int × ((Int × Unit) × Unit) × Unit × Int × Int × Unit) × ((List (List Int)) × Unit)) ⊕ (((Unit × Unit) × ((List (List Int)) × Unit)))) :=
  let a1 := x.1.1
  let a2 := x.1.2.1
  let a3 := x.1.2.2.1.1.1
  let a4 := x.1.2.2.2.2.1
  let a5 := x.1.2.2.2.2.2.1
  let a6 := x.2.1
  let v7 : Bool := decide (a5 < a4)
  bif v7 then
    let v8 : Int := IntKind.wrap .i64 (a5 + 1)
    Option.bind (Loop B163x1_8 ((a1, a2, ((a3, ()), ()), (), a5, a4, a5, v8, 0, ()), (a6, ()))) fun r9 =>
    let a10 := r9.1.1
    let a11 := r9.1.2.1
    let a12 := r9.1.2.2.1.1.1
    let a13 := r9.1.2.2.2.2.1
    let a14 := r9.1.2.2.2.2.2.1
    let a15 := r9.2.1
    let v16 : Int := IntKind.wrap .i64 (a14 + 1)
    some (.inl ((a10, a11, ((a12, ()), ()), (), a13, v16, ()), (a15, ())))
  else some (.inr (((), ()), (a6, ())))
def F163x1 (x0 : Int) (x1 : Int) (x2 : Int) (x3 : Int) : Option ((Unit × Bool × Unit) × (Unit) × ((List (List Int)) × Unit)) :=
  Option.bind (F290 x0 x1) fun r1 =>
  let v2 : Bool := !r1.1
  bif v2 then
    some (((), false, ()), (), (([] : List (List Int)), ()))
  else
    Option.bind (F169 x2 0 200) fun r3 =>
    let v4 : Bool := !r3.1
    bif v4 then
      some (((), false, ()), (), (([] : List (List Int)), ()))
    else
      let v5 : Int := IntKind.wrap .i64 (x2 + 1)
      Option.bind (Loop B163x1_5 ((x0, x1, ((x3, ()), ()), (), v5, 0, ()), (([] : List (List Int)), ()))) fun r6 =>
      let a7 := r6.2.1
      let v8 : Int := ((a7.length : Nat) : Int)
      let v9 : Bool := decide (v8 > 1000)
      bif v9 then
        some (((), false, ()), (), (([] : List (List Int)), ()))
      else some (((), true, ()), (), (a7, ()))
@[reducible] def ff163x1 : FForm := ⟨[.a (.a (.dat (.int .i64))), .a (.a (.dat (.int .i64))), .a (.a (.dat (.int .i64))), .a (.fn 167 [.cells [(.int .i64)]])], [], .tup [.a (.a (.obj 8)), .a (.a (.dat .bool))], [(8, .obj 32 (.sl 3 (.int .i64)) 0)]⟩
def G163x1 (x : ff163x1.X) : Option ff163x1.A := F163x1 x.1.1 x.1.2.1 x.1.2.2.1 x.1.2.2.2.1.1.1
noncomputable def cs163x1 : List (Nat × Spec) := [(167, (ff167.spec G167)), (169, (ff169.spec G169)), (290, (ff290.spec G290)), (291, (ff291.spec G291))]
@[reducible] def lB163x1_8 : Form := ⟨[(0, .a (.a (.a (.dat (.int .i64))))), (1, .a (.a (.a (.dat (.int .i64))))), (3, .a (.a (.fn 167 [.cells [(.int .i64)]]))), (10, .a (.a (.a (.obj 22)))), (11, .a (.a (.a (.dat (.int .i64))))), (24, .a (.a (.a (.dat (.int .i64))))), (25, .a (.a (.a (.dat (.int .i64))))), (29, .a (.a (.a (.dat (.int .i64))))), (30, .a (.a (.a (.dat (.int .i64)))))], [(22, .obj 32 (.sl 3 (.int .i64)) 0)]⟩
@[reducible] def oB163x1_8 : List (Nat × Form) := [(4, ⟨[(0, .a (.a (.a (.dat (.int .i64))))), (1, .a (.a (.a (.dat (.int .i64))))), (3, .a (.a (.fn 167 [.cells [(.int .i64)]]))), (10, .a (.a (.a (.obj 22)))), (24, .a (.a (.a (.dat (.int .i64))))), (25, .a (.a (.a (.dat (.int .i64)))))], [(22, .obj 32 (.sl 3 (.int .i64)) 0)]⟩)]
@[reducible] def lB163x1_5 : Form := ⟨[(0, .a (.a (.a (.dat (.int .i64))))), (1, .a (.a (.a (.dat (.int .i64))))), (3, .a (.a (.fn 167 [.cells [(.int .i64)]]))), (10, .a (.a (.a (.obj 22)))), (24, .a (.a (.a (.dat (.int .i64))))), (25, .a (.a (.a (.dat (.int .i64)))))], [(22, .obj 32 (.sl 3 (.int .i64)) 0)]⟩
@[reducible] def oB163x1_5 : List (Nat × Form) := [(2, ⟨[(10, .a (.a (.a (.obj 22))))], [(22, .obj 32 (.sl 3 (.int .i64)) 0)]⟩)]
noncomputable def E163x1 : Env := { ty := ty, ntmps := 56, nio := 4, objs := objOf [(8, 0), (22, 0)], loud := loudOf [], calls := specOf (cs163x1), muts := mutOf [], loops := loopOf [(8, loopSpec 4 lB163x1_8 oB163x1_8 B163x1_8), (5, loopSpec 4 lB163x1_5 oB163x1_5 B163x1_5)] }
theorem hc163x1 : ∀ f, CallOK Try.prog f ((E163x1).calls f) := specOf_ok (by
  intro p hp
  simp only [cs163x1, List.mem_cons, List.not_mem_nil, or_false] at hp
  rcases hp with rfl | rfl | rfl | rfl
  · exact S167
  · exact S169
  · exact S290
  · exact S291)
noncomputable def c163x1 : Code := bodyOf Try.f163
noncomputable def c163x1_0 : Code := (loopsOf c163x1).getD 0 .skip
noncomputable def c163x1_0_0 : Code := (loopsOf c163x1_0).getD 0 .skip
theorem L163x1_0_0 : LoopOK Try.prog (E163x1) c163x1_0_0 := loop_ok ty_ok (hc163x1) mixed (F := lB163x1_8) (outs := oB163x1_8) (B := B163x1_8) (by kernel_rfl) (by kernel_rfl) (by kernel_rfl) (loops_nth 0 (by kernel_rfl) (fun i hi => absurd hi (Nat.not_lt_zero i))) (fun x => by kernel_rfl)
theorem L163x1_0 : LoopOK Try.prog (E163x1) c163x1_0 := loop_ok ty_ok (hc163x1) mixed (F := lB163x1_5) (outs := oB163x1_5) (B := B163x1_5) (by kernel_rfl) (by kernel_rfl) (by kernel_rfl) (loops_nth 1 (by kernel_rfl) (fun i hi => match i, hi with | 0, _ => L163x1_0_0)) (fun x => by kernel_rfl)
theorem S163x1 : CallOK Try.prog 163 (ff163x1.spec G163x1) := fn_ok (E := E163x1) (c := c163x1) (F := ff163x1) (G := G163x1) ty_ok (hc163x1) mixed Try.func163 (by kernel_rfl) (by kernel_rfl) (by kernel_rfl) (by kernel_rfl) (by kernel_rfl) (by kernel_rfl) (loops_nth 1 (by kernel_rfl) (fun i hi => match i, hi with | 0, _ => L163x1_0)) (fun x => by kernel_rfl)
/-! impl.ClassesUpTo -/
def F20 (x0 : Int) (x1 : Int) (x2 : Int) : Option (((List (List Int)) × Bool × Unit) × (Unit) × (Unit)) :=
  Option.bind (F163x1 x0 x1 x2 x0) fun r1 =>
  some ((r1.2.2.1, r1.1.2.1, ()), (), ())
@[reducible] def ff20 : FForm := ⟨[.a (.a (.dat (.int .i64))), .a (.a (.dat (.int .i64))), .a (.a (.dat (.int .i64)))], [], .tup [.a (.a (.dat (.sl 32 (.sl 3 (.int .i64))))), .a (.a (.dat .bool))], []⟩
def G20 (x : ff20.X) : Option ff20.A := F20 x.1.1 x.1.2.1 x.1.2.2.1
noncomputable def cs20 : List (Nat × Spec) := [(163, (ff163x1.spec G163x1))]
noncomputable def E20 : Env := { ty := ty, ntmps := 15, nio := 3, objs := objOf [], loud := loudOf [], calls := specOf (cs20), muts := mutOf [], loops := loopOf [] }
theorem hc20 : ∀ f, CallOK Try.prog f ((E20).calls f) := specOf_ok (by
  intro p hp
  simp only [cs20, List.mem_cons, List.not_mem_nil, or_false] at hp
  rcases hp with rfl
  · exact S163x1)
noncomputable def c20 : Code := bodyOf Try.f20
theorem S20 : CallOK Try.prog 20 (ff20.spec G20) := fn_ok (E := E20) (c := c20) (F := ff20) (G := G20) ty_ok (hc20) mixed Try.func20 (by kernel_rfl) (by kernel_rfl) (by kernel_rfl) (by kernel_rfl) (by kernel_rfl) (by kernel_rfl) (loops_nth 0 (by kernel_rfl) (fun i hi => absurd hi (Nat.not_lt_zero i))) (fun x => by kernel_rfl)
/-! spec.ClassesUpTo -/
def F21 (x0 : Int) (x1 : Int) (x2 : Int) : Option (((List (List Int)) × Bool × Unit) × (Unit) × (Unit)) :=
  Option.bind (F165 x0 x1 x2) fun r1 =>
  let v2 : Bool := !r1.1
  bif v2 then
    some ((([] : List (List Int)), false, ()), (), ())
  else
    Option.bind (F166 x0 x1 x2 true) fun r3 =>
    let v4 : Int := ((r3.2.2.1.length : Nat) : Int)
    let v5 : Bool := decide (v4 > 1000)
    bif v5 then
      some ((([] : List (List Int)), false, ()), (), ())
    else some ((r3.2.2.1, true, ()), (), ())
@[reducible] def ff21 : FForm := ⟨[.a (.a (.dat (.int .i64))), .a (.a (.dat (.int .i64))), .a (.a (.dat (.int .i64)))], [], .tup [.a (.a (.dat (.sl 32 (.sl 3 (.int .i64))))), .a (.a (.dat .bool))], []⟩
def G21 (x : ff21.X) : Option ff21.A := F21 x.1.1 x.1.2.1 x.1.2.2.1
noncomputable def cs21 : List (Nat × Spec) := [(165, (ff165.spec G165)), (166, (ff166.spec G166))]
noncomputable def E21 : Env := { ty := ty, ntmps := 22, nio := 3, objs := objOf [], loud := loudOf [], calls := specOf (cs21), muts := mutOf [], loops := loopOf [] }
theorem hc21 : ∀ f, CallOK Try.prog f ((E21).calls f) := specOf_ok (by
  intro p hp
  simp only [cs21, List.mem_cons, List.not_mem_nil, or_false] at hp
  rcases hp with rfl | rfl
  · exact S165
  · exact S166)
noncomputable def c21 : Code := bodyOf Try.f21
theorem S21 : CallOK Try.prog 21 (ff21.spec G21) := fn_ok (E := E21) (c := c21) (F := ff21) (G := G21) ty_ok (hc21) mixed Try.func21 (by kernel_rfl) (by kernel_rfl) (by kernel_rfl) (by kernel_rfl) (by kernel_rfl) (by kernel_rfl) (loops_nth 0 (by kernel_rfl) (fun i hi => absurd hi (Nat.not_lt_zero i))) (fun x => by kernel_rfl)
/-! laws.vSame -/
def B26_4 (x : (((List Int) × (List Int) × Int × Int × Unit) × (Unit))) : Option ((((List Int) × (List Int) × Int × Int × Unit) × (Unit)) ⊕ (((Bool × Unit) × (Unit)) ⊕ ((Unit) × (Unit)))) :=
  let a1 := x.1.1
  let a2 := x.1.2.1
  let a3 := x.1.2.2.1
  let a4 := x.1.2.2.2.1
  let v5 : Bool := decide (a4 < a3)
  bif v5 then
    bif decide (0 ≤ a4) then
      bif decide (a4 < ((a1.length : Nat) : Int)) then
        let v6 : Int := a1.getD (Int.toNat (a4)) 0
        bif decide (0 ≤ a4) then
          bif decide (a4 < ((a2.length : Nat) : Int)) then
            let v7 : Int := a2.getD (Int.toNat (a4)) 0
            let v8 : Bool := (v6 != v7 : Bool)
            bif v8 then
              some (.inr (.inl ((false, ()), ())))
            else
              let v9 : Int := IntKind.wrap .i64 (a4 + 1)
              some (.inl ((a1, a2, a3, v9, ()), ()))
          else none
        else none
      else none
    else none
  else some (.inr (.inr ((), ())))
def F26 (x0 : (List Int)) (x1 : (List Int)) : Option (Bool × (Unit) × (Unit)) :=
  let v1 : Int := ((x0.length : Nat) : Int)
  let v2 : Int := ((x1.length : Nat) : Int)
  let v3 : Bool := (v1 != v2 : Bool)
  bif v3 then
    some (false, (), ())
  else
    let v4 : Int := ((x0.length : Nat) : Int)
    Option.bind (Loop B26_4 ((x0, x1, v4, 0, ()), ())) fun r5 =>
    match r5 with
    | .inl r6 =>
      let a8 := r6.1.1
      some (a8, (), ())
    | .inr r7 =>
      some (true, (), ())
@[reducible] def ff26 : FForm := ⟨[.a (.a (.dat (.sl 3 (.int .i64)))), .a (.a (.dat (.sl 3 (.int .i64))))], [], .a (.a (.a (.dat .bool))), []⟩
def G26 (x : ff26.X) : Option ff26.A := F26 x.1.1 x.1.2.1
noncomputable def cs26 : List (Nat × Spec) := []
@[reducible] def lB26_4 : Form := ⟨[(0, .a (.a (.a (.dat (.sl 3 (.int .i64)))))), (1, .a (.a (.a (.dat (.sl 3 (.int .i64)))))), (12, .a (.a (.a (.dat (.int .i64))))), (13, .a (.a (.a (.dat (.int .i64)))))], []⟩
@[reducible] def oB26_4 : List (Nat × Form) := [(1, ⟨[(4, .a (.a (.a (.dat .bool))))], []⟩), (2, ⟨[], []⟩)]
noncomputable def E26 : Env := { ty := ty, ntmps := 26, nio := 2, objs := objOf [], loud := loudOf [], calls := specOf (cs26), muts := mutOf [], loops := loopOf [(4, loopSpec 2 lB26_4 oB26_4 B26_4)] }
theorem hc26 : ∀ f, CallOK Try.prog f (E26.calls f) := specOf_ok (by intro p hp; cases hp)
noncomputable def c26 : Code := bodyOf Try.f26
noncomputable def c26_0 : Code := (loopsOf c26).getD 0 .skip
theorem L26_0 : LoopOK Try.prog (E26) c26_0 := loop_ok ty_ok (hc26) mixed (F := lB26_4) (outs := oB26_4) (B := B26_4) (by kernel_rfl) (by kernel_rfl) (by kernel_rfl) (loops_nth 0 (by kernel_rfl) (fun i hi => absurd hi (Nat.not_lt_zero i))) (fun x => by kernel_rfl)
theorem S26 : CallOK Try.prog 26 (ff26.spec G26) := fn_ok (E := E26) (c := c26) (F := ff26) (G := G26) ty_ok (hc26) mixed Try.func26 (by kernel_rfl) (by kernel_rfl) (by kernel_rfl) (by kernel_rfl) (by kernel_rfl) (by kernel_rfl) (loops_nth 1 (by kernel_rfl) (fun i hi => match i, hi with | 0, _ => L26_0)) (fun x => by kernel_rfl)
/-! laws.vSameLists -/
def B22_4 (x : (((List (List Int)) × (List (List Int)) × Int × Int × Unit) × (Unit))) : Option ((((List (List Int)) × (List (List Int)) × Int × Int × Unit) × (Unit)) ⊕ (((Bool × Unit) × (Unit)) ⊕ ((Unit) × (Unit)))) :=
  let a1 := x.1.1
  let a2 := x.1.2.1
  let a3 := x.1.2.2.1
  let a4 := x.1.2.2.2.1
  let v5 : Bool := decide (a4 < a3)
  bif v5 then
    bif decide (0 ≤ a4) then
      bif decide (a4 < ((a1.length : Nat) : Int)) then
        let v6 : (List Int) := a1.getD (Int.toNat (a4)) []
        bif decide (0 ≤ a4) then
          bif decide (a4 < ((a2.length : Nat) : Int)) then
            let v7 : (List Int) := a2.getD (Int.toNat (a4)) []
            Option.bind (F26 v6 v7) fun r8 =>
            let v9 : Bool := !r8.1
            bif v9 then
              some (.inr (.inl ((false, ()), ())))
            else
              let v10 : Int := IntKind.wrap .i64 (a4 + 1)
              some (.inl ((a1, a2, a3, v10, ()), ()))
          else none
        else none
      else none
    else none
  else some (.inr (.inr ((), ())))
def F22 (x0 : (List (List Int))) (x1 : (List (List Int))) : Option (Bool × (Unit) × (Unit)) :=
  let v1 : Int := ((x0.length : Nat) : Int)
  let v2 : Int := ((x1.length : Nat) : Int)
  let v3 : Bool := (v1 != v2 : Bool)
  bif v3 then
    some (false, (), ())
  else
    let v4 : Int := ((x0.length : Nat) : Int)
    Option.bind (Loop B22_4 ((x0, x1, v4, 0, ()), ())) fun r5 =>
    match r5 with
    | .inl r6 =>
      let a8 := r6.1.1
      some (a8, (), ())
    | .inr r7 =>
      some (true, (), ())
@[reducible] def ff22 : FForm := ⟨[.a (.a (.dat (.sl 32 (.sl 3 (.int .i64))))), .a (.a (.dat (.sl 32 (.sl 3 (.int .i64)))))], [], .a (.a (.a (.dat .bool))), []⟩
def G22 (x : ff22.X) : Option ff22.A := F22 x.1.1 x.1.2.1
noncomputable def cs22 : List (Nat × Spec) := [(26, (ff26.spec G26))]
@[reducible] def lB22_4 : Form := ⟨[(0, .a (.a (.a (.dat (.sl 32 (.sl 3 (.int .i64))))))), (1, .a (.a (.a (.dat (.sl 32 (.sl 3 (.int .i64))))))), (12, .a (.a (.a (.dat (.int .i64))))), (13, .a (.a (.a (.dat (.int .i64)))))], []⟩
@[reducible] def oB22_4 : List (Nat × Form) := [(1, ⟨[(4, .a (.a (.a (.dat .bool))))], []⟩), (2, ⟨[], []⟩)]
noncomputable def E22 : Env := { ty := ty, ntmps := 27, nio := 2, objs := objOf [], loud := loudOf [], calls := specOf (cs22), muts := mutOf [], loops := loopOf [(4, loopSpec 2 lB22_4 oB22_4 B22_4)] }
theorem hc22 : ∀ f, CallOK Try.prog f ((E22).calls f) := specOf_ok (by
  intro p hp
  simp only [cs22, List.mem_cons, List.not_mem_nil, or_false] at hp
  rcases hp with rfl
  · exact S26)
noncomputable def c22 : Code := bodyOf Try.f22
noncomputable def c22_0 : Code := (loopsOf c22).getD 0 .skip
theorem L22_0 : LoopOK Try.prog (E22) c22_0 := loop_ok ty_ok (hc22) mixed (F := lB22_4) (outs := oB22_4) (B := B22_4) (by kernel_rfl) (by kernel_rfl) (by kernel_rfl) (loops_nth 0 (by kernel_rfl) (fun i hi => absurd hi (Nat.not_lt_zero i))) (fun x => by kernel_rfl)
theorem S22 : CallOK Try.prog 22 (ff22.spec G22) := fn_ok (E := E22) (c := c22) (F := ff22) (G := G22) ty_ok (hc22) mixed Try.func22 (by kernel_rfl) (by kernel_rfl) (by kernel_rfl) (by kernel_rfl) (by kernel_rfl) (by kernel_rfl) (loops_nth 1 (by kernel_rfl) (fun i hi => match i, hi with | 0, _ => L22_0)) (fun x => by kernel_rfl)
/-! spec.DrawKsUpTo -/
def F23 (x0 : (List Int)) : Option ((Int × Int × Unit) × (Unit) × (Unit)) :=
  Option.bind (F162 x0 0 0) fun r1 =>
  some ((r1.1.2.1, r1.1.2.2.1, ()), (), ())
@[reducible] def ff23 : FForm := ⟨[.a (.a (.dat (.sl 5 (.int .u8))))], [], .tup [.a (.a (.dat (.int .i64))), .a (.a (.dat (.int .i64)))], []⟩
def G23 (x : ff23.X) : Option ff23.A := F23 x.1.1
noncomputable def cs23 : List (Nat × Spec) := [(162, (ff162.spec G162))]
noncomputable def E23 : Env := { ty := ty, ntmps := 19, nio := 1, objs := objOf [], loud := loudOf [], calls := specOf (cs23), muts := mutOf [], loops := loopOf [] }
theorem hc23 : ∀ f, CallOK Try.prog f ((E23).calls f) := specOf_ok (by
  intro p hp
  simp only [cs23, List.mem_cons, List.not_mem_nil, or_false] at hp
  rcases hp with rfl
  · exact S162)
noncomputable def c23 : Code := bodyOf Try.f23
theorem S23 : CallOK Try.prog 23 (ff23.spec G23) := fn_ok (E := E23) (c := c23) (F := ff23) (G := G23) ty_ok (hc23) mixed Try.func23 (by kernel_rfl) (by kernel_rfl) (by kernel_rfl) (by kernel_rfl) (by kernel_rfl) (by kernel_rfl) (loops_nth 0 (by kernel_rfl) (fun i hi => absurd hi (Nat.not_lt_zero i))) (fun x => by kernel_rfl)
/-! impl.kOf -/
def F170 (x0 : Int) (x1 : Int) (x2 : Int) : Option ((Int × Bool × Unit) × (Unit) × (Unit)) :=
  let v1 : Int := IntKind.wrap .i64 (x0 * x0)
  let v2 : Int := IntKind.wrap .i64 (x1 * x1)
  let v3 : Int := IntKind.wrap .i64 (v1 + v2)
  let v4 : Int := IntKind.wrap .i64 (v3 + x2)
  let v5 : Int := IntKind.wrap .i64 (x0 * x1)
  bif decide (v5 = 0) then
    none
  else
    let v6 : Int := Int.tmod v4 v5
    let v7 : Bool := (v6 != 0 : Bool)
    bif v7 then
      some ((0, false, ()), (), ())
    else
      let v8 : Int := IntKind.wrap .i64 (x0 * x1)
      bif decide (v8 = 0) then
        none
      else
        let v9 : Int := IntKind.wrap .i64 (Int.tdiv v4 v8)
        Option.bind (F169 v9 1 1000) fun r10 =>
        let v11 : Bool := !r10.1
        bif v11 then
          some ((0, false, ()), (), ())
        else
          let v12 : Int := IntKind.wrap .i64 (x0 * x1)
          bif decide (v12 = 0) then
            none
          else
            let v13 : Int := IntKind.wrap .i64 (Int.tdiv v4 v12)
            some ((v13, true, ()), (), ())
@[reducible] def ff170 : FForm := ⟨[.a (.a (.dat (.int .i64))), .a (.a (.dat (.int .i64))), .a (.a (.dat (.int .i64)))], [], .tup [.a (.a (.dat (.int .i64))), .a (.a (.dat .bool))], []⟩
def G170 (x : ff170.X) : Option ff170.A := F170 x.1.1 x.1.2.1 x.1.2.2.1
noncomputable def cs170 : List (Nat × Spec) := [(169, (ff169.spec G169))]
noncomputable def E170 : Env := { ty := ty, ntmps := 38, nio := 3, objs := objOf [], loud := loudOf [], calls := specOf (cs170), muts := mutOf [], loops := loopOf [] }
theorem hc170 : ∀ f, CallOK Try.prog f ((E170).calls f) := specOf_ok (by
  intro p hp
  simp only [cs170, List.mem_cons, List.not_mem_nil, or_false] at hp
  rcases hp with rfl
  · exact S169)
noncomputable def c170 : Code := bodyOf Try.f170
theorem S170 : CallOK Try.prog 170 (ff170.spec G170) := fn_ok (E := E170) (c := c170) (F := ff170) (G := G170) ty_ok (hc170) mixed Try.func170 (by kernel_rfl) (by kernel_rfl) (by kernel_rfl) (by kernel_rfl) (by kernel_rfl) (by kernel_rfl) (loops_nth 0 (by kernel_rfl) (fun i hi => absurd hi (Nat.not_lt_zero i))) (fun x => by kernel_rfl)
/-! impl.KsUpTo -/
def B24_8 (x : ((Int × Int × Unit × Int × Int × Unit) × ((List Bool) × Unit))) : Option (((Int × Int × Unit × Int × Int × Unit) × ((List Bool) × Unit)) ⊕ (((Int × Int × Unit × Int × Unit) × ((List Bool) × Unit)))) :=
  let a1 := x.1.1
  let a2 := x.1.2.1
  let a3 := x.1.2.2.2.1
  let a4 := x.1.2.2.2.2.1
  let a5 := x.2.1
  let v6 : Bool := decide (a4 ≤ a3)
  bif v6 then
    Option.bind (F170 a3 a4 a1) fun r7 =>
    bif r7.1.2.1 then
      bif decide (0 ≤ r7.1.1) then
        bif decide (r7.1.1 < ((1001 : Nat) : Int)) then
          let v8 : Nat := Int.toNat (r7.1.1)
          let v9 : List Bool := a5.set v8 true
          let v10 : Int := IntKind.wrap .i64 (a4 + 1)
          some (.inl ((a1, a2, (), a3, v10, ()), (v9, ())))
        else none
      else none
    else
      let v11 : Int := IntKind.wrap .i64 (a4 + 1)
      some (.inl ((a1, a2, (), a3, v11, ()), (a5, ())))
  else some (.inr ((a1, a2, (), a3, ()), (a5, ())))
def B24_5 (x : ((Int × Int × Unit × Int × Unit) × ((List Bool) × Unit))) : Option (((Int × Int × Unit × Int × Unit) × ((List Bool) × Unit)) ⊕ (((Unit × Unit) × ((List Bool) × Unit)))) :=
  let a1 := x.1.1
  let a2 := x.1.2.1
  let a3 := x.1.2.2.2.1
  let a4 := x.2.1
  let v5 : Bool := decide (a3 ≤ a2)
  bif v5 then
    Option.bind (Loop B24_8 ((a1, a2, (), a3, 1, ()), (a4, ()))) fun r6 =>
    let a7 := r6.1.1
    let a8 := r6.1.2.1
    let a9 := r6.1.2.2.2.1
    let a10 := r6.2.1
    let v11 : Int := IntKind.wrap .i64 (a9 + 1)
    some (.inl ((a7, a8, (), v11, ()), (a10, ())))
  else some (.inr (((), ()), (a4, ())))
def B24_15 (x : ((Unit × (List Bool) × Int × Unit) × ((List Int) × Unit))) : Option (((Unit × (List Bool) × Int × Unit) × ((List Int) × Unit)) ⊕ (((Unit × Unit) × ((List Int) × Unit)))) :=
  let a1 := x.1.2.1
  let a2 := x.1.2.2.1
  let a3 := x.2.1
  let v4 : Bool := decide (a2 < 1001)
  bif v4 then
    bif decide (0 ≤ a2) then
      bif decide (a2 < ((1001 : Nat) : Int)) then
        let v5 : Bool := a1.getD (Int.toNat (a2)) false
        bif v5 then
          let v6 : List Int := [a2]
          bif fits (a3.length + v6.length) 8 then
            let v7 : List Int := a3 ++ v6
            let v8 : Int := IntKind.wrap .i64 (a2 + 1)
            some (.inl (((), a1, v8, ()), (v7, ())))
          else none
        else
          let v9 : Int := IntKind.wrap .i64 (a2 + 1)
          some (.inl (((), a1, v9, ()), (a3, ())))
      else none
    else none
  else some (.inr (((), ()), (a3, ())))
def F24 (x0 : Int) (x1 : Int) : Option ((Unit × Bool × Unit) × (Unit) × ((List Int) × Unit)) :=
  Option.bind (F169 x0 (-1000) 1000) fun r1 =>
  let v2 : Bool := !r1.1
  bif v2 then
    some (((), false, ()), (), (([] : List Int), ()))
  else
    Option.bind (F169 x1 0 200) fun r3 =>
    let v4 : Bool := !r3.1
    bif v4 then
      some (((), false, ()), (), (([] : List Int), ()))
    else
      let v5 : List Bool := List.replicate 1001 false
      let v6 : List Bool := List.replicate 1001 false
      Option.bind (Loop B24_5 ((x0, x1, (), 1, ()), (v5, ()))) fun r7 =>
      let a8 := r7.2.1
      Option.bind (Loop B24_15 (((), a8, 0, ()), (([] : List Int), ()))) fun r9 =>
      let a10 := r9.2.1
      some (((), true, ()), (), (a10, ()))
@[reducible] def ff24 : FForm := ⟨[.a (.a (.dat (.int .i64))), .a (.a (.dat (.int .i64)))], [], .tup [.a (.a (.obj 4)), .a (.a (.dat .bool))], [(4, .obj 3 (.int .i64) 0)]⟩
def G24 (x : ff24.X) : Option ff24.A := F24 x.1.1 x.1.2.1
noncomputable def cs24 : List (Nat × Spec) := [(169, (ff169.spec G169)), (170, (ff170.spec G170))]
@[reducible] def lB24_8 : Form := ⟨[(0, .a (.a (.a (.dat (.int .i64))))), (1, .a (.a (.a (.dat (.int .i64))))), (6, .a (.a (.a (.ptr 6 0)))), (7, .a (.a (.a (.dat (.int .i64))))), (8, .a (.a (.a (.dat (.int .i64)))))], [(6, .arr .bool 1001)]⟩
@[reducible] def oB24_8 : List (Nat × Form) := [(4, ⟨[(0, .a (.a (.a (.dat (.int .i64))))), (1, .a (.a (.a (.dat (.int .i64))))), (6, .a (.a (.a (.ptr 6 0)))), (7, .a (.a (.a (.dat (.int .i64)))))], [(6, .arr .bool 1001)]⟩)]
@[reducible] def lB24_5 : Form := ⟨[(0, .a (.a (.a (.dat (.int .i64))))), (1, .a (.a (.a (.dat (.int .i64))))), (6, .a (.a (.a (.ptr 6 0)))), (7, .a (.a (.a (.dat (.int .i64)))))], [(6, .arr .bool 1001)]⟩
@[reducible] def oB24_5 : List (Nat × Form) := [(2, ⟨[(6, .a (.a (.a (.ptr 6 0))))], [(6, .arr .bool 1001)]⟩)]
@[reducible] def lB24_15 : Form := ⟨[(11, .a (.a (.a (.obj 43)))), (44, .a (.a (.a (.arr .bool 1001)))), (45, .a (.a (.a (.dat (.int .i64)))))], [(43, .obj 3 (.int .i64) 0)]⟩
@[reducible] def oB24_15 : List (Nat × Form) := [(6, ⟨[(11, .a (.a (.a (.obj 43))))], [(43, .obj 3 (.int .i64) 0)]⟩)]
noncomputable def E24 : Env := { ty := ty, ntmps := 56, nio := 2, objs := objOf [(4, 0), (43, 0)], loud := loudOf [], calls := specOf (cs24), muts := mutOf [], loops := loopOf [(8, loopSpec 2 lB24_8 oB24_8 B24_8), (5, loopSpec 2 lB24_5 oB24_5 B24_5), (15, loopSpec 2 lB24_15 oB24_15 B24_15)] }
theorem hc24 : ∀ f, CallOK Try.prog f ((E24).calls f) := specOf_ok (by
  intro p hp
  simp only [cs24, List.mem_cons, List.not_mem_nil, or_false] at hp
  rcases hp with rfl | rfl
  · exact S169
  · exact S170)
noncomputable def c24 : Code := bodyOf Try.f24
noncomputable def c24_0 : Code := (loopsOf c24).getD 0 .skip
noncomputable def c24_0_0 : Code := (loopsOf c24_0).getD 0 .skip
theorem L24_0_0 : LoopOK Try.prog (E24) c24_0_0 := loop_ok ty_ok (hc24) mixed (F := lB24_8) (outs := oB24_8) (B := B24_8) (by kernel_rfl) (by kernel_rfl) (by kernel_rfl) (loops_nth 0 (by kernel_rfl) (fun i hi => absurd hi (Nat.not_lt_zero i))) (fun x => by kernel_rfl)
theorem L24_0 : LoopOK Try.prog (E24) c24_0 := loop_ok ty_ok (hc24) mixed (F := lB24_5) (outs := oB24_5) (B := B24_5) (by kernel_rfl) (by kernel_rfl) (by kernel_rfl) (loops_nth 1 (by kernel_rfl) (fun i hi => match i, hi with | 0, _ => L24_0_0)) (fun x => by kernel_rfl)
noncomputable def c24_1 : Code := (loopsOf c24).getD 1 .skip
theorem L24_1 : LoopOK Try.prog (E24) c24_1 := loop_ok ty_ok (hc24) mixed (F := lB24_15) (outs := oB24_15) (B := B24_15) (by kernel_rfl) (by kernel_rfl) (by kernel_rfl) (loops_nth 0 (by kernel_rfl) (fun i hi => absurd hi (Nat.not_lt_zero i))) (fun x => by kernel_rfl)
theorem S24 : CallOK Try.prog 24 (ff24.spec G24) := fn_ok (E := E24) (c := c24) (F := ff24) (G := G24) ty_ok (hc24) mixed Try.func24 (by kernel_rfl) (by kernel_rfl) (by kernel_rfl) (by kernel_rfl) (by kernel_rfl) (by kernel_rfl) (loops_nth 2 (by kernel_rfl) (fun i hi => match i, hi with | 0, _ => L24_0 | 1, _ => L24_1)) (fun x => by kernel_rfl)
/-! spec.KOfPair -/
def F29 (x0 : Int) (x1 : Int) (x2 : Int) : Option ((Int × Bool × Unit) × (Unit) × (Unit)) :=
  Option.bind (F173 x0 1 1000000) fun r1 =>
  let v2 : Bool := !r1.1
  bif v2 then
    some ((0, false, ()), (), ())
  else
    Option.bind (F173 x1 1 x0) fun r3 =>
    let v4 : Bool := !r3.1
    bif v4 then
      some ((0, false, ()), (), ())
    else
      Option.bind (F173 x2 (-1000) 1000) fun r5 =>
      let v6 : Bool := !r5.1
      bif v6 then
        some ((0, false, ()), (), ())
      else
        let v7 : Int := IntKind.wrap .i64 (x0 * x0)
        let v8 : Int := IntKind.wrap .i64 (x1 * x1)
        let v9 : Int := IntKind.wrap .i64 (v7 + v8)
        let v10 : Int := IntKind.wrap .i64 (v9 + x2)
        let v11 : Int := IntKind.wrap .i64 (x0 * x1)
        bif decide (v11 = 0) then
          none
        else
          let v12 : Int := IntKind.wrap .i64 (Int.tdiv v10 v11)
          Option.bind (F174 v12 x2) fun r13 =>
          let v14 : Bool := !r13.1
          bif v14 then
            some ((0, false, ()), (), ())
          else
            Option.bind (F175 x0 x1 v12 x2) fun r15 =>
            let v16 : Bool := !r15.1
            bif v16 then
              some ((0, false, ()), (), ())
            else some ((v12, true, ()), (), ())
@[reducible] def ff29 : FForm := ⟨[.a (.a (.dat (.int .i64))), .a (.a (.dat (.int .i64))), .a (.a (.dat (.int .i64)))], [], .tup [.a (.a (.dat (.int .i64))), .a (.a (.dat .bool))], []⟩
def G29 (x : ff29.X) : Option ff29.A := F29 x.1.1 x.1.2.1 x.1.2.2.1
noncomputable def cs29 : List (Nat × Spec) := [(173, (ff173.spec G173)), (174, (ff174.spec G174)), (175, (ff175.spec G175))]
noncomputable def E29 : Env := { ty := ty, ntmps := 49, nio := 3, objs := objOf [], loud := loudOf [], calls := specOf (cs29), muts := mutOf [], loops := loopOf [] }
theorem hc29 : ∀ f, CallOK Try.prog f ((E29).calls f) := specOf_ok (by
  intro p hp
  simp only [cs29, List.mem_cons, List.not_mem_nil, or_false] at hp
  rcases hp with rfl | rfl | rfl
  · exact S173
  · exact S174
  · exact S175)
noncomputable def c29 : Code := bodyOf Try.f29
theorem S29 : CallOK Try.prog 29 (ff29.spec G29) := fn_ok (E := E29) (c := c29) (F := ff29) (G := G29) ty_ok (hc29) mixed Try.func29 (by kernel_rfl) (by kernel_rfl) (by kernel_rfl) (by kernel_rfl) (by kernel_rfl) (by kernel_rfl) (loops_nth 0 (by kernel_rfl) (fun i hi => absurd hi (Nat.not_lt_zero i))) (fun x => by kernel_rfl)
/-! spec.l1Put -/
def B171_2 (x : (((List Int) × Int × Int × Unit) × (Unit))) : Option ((((List Int) × Int × Int × Unit) × (Unit)) ⊕ ((((List Int) × Int × Int × Unit) × (Unit)))) :=
  let a1 := x.1.1
  let a2 := x.1.2.1
  let a3 := x.1.2.2.1
  let v4 : Int := ((a1.length : Nat) : Int)
  let v5 : Bool := decide (a3 < v4)
  bif v5 then
    bif decide (0 ≤ a3) then
      bif decide (a3 < ((a1.length : Nat) : Int)) then
        let v6 : Int := a1.getD (Int.toNat (a3)) 0
        let v7 : Bool := decide (v6 < a2)
        bif v7 then
          let v8 : Int := IntKind.wrap .i64 (a3 + 1)
          some (.inl ((a1, a2, v8, ()), ()))
        else some (.inr ((a1, a2, a3, ()), ()))
      else none
    else none
  else some (.inr ((a1, a2, a3, ()), ()))
def F171 (x0 : (List Int)) (x1 : Int) : Option ((List Int) × (Unit) × (Unit)) :=
  Option.bind (Loop B171_2 ((x0, x1, 0, ()), ())) fun r1 =>
  let a2 := r1.1.1
  let a3 := r1.1.2.1
  let a4 := r1.1.2.2.1
  let v5 : Int := ((a2.length : Nat) : Int)
  let v6 : Bool := decide (a4 < v5)
  bif v6 then
    bif decide (0 ≤ a4) then
      bif decide (a4 < ((a2.length : Nat) : Int)) then
        let v7 : Int := a2.getD (Int.toNat (a4)) 0
        let v8 : Bool := (v7 == a3 : Bool)
        bif v8 then
          some (a2, (), ())
        else
          bif decide (0 ≤ a4) then
            bif decide (a4 < ((a2.length + 1 : Nat) : Int)) then
              let v9 : (List Int) := a2.take (Int.toNat (a4))
              bif fits (([] : List Int).length + v9.length) 8 then
                let v10 : List Int := ([] : List Int) ++ v9
                let v11 : List Int := [a3]
                bif fits (v10.length + v11.length) 8 then
                  let v12 : List Int := v10 ++ v11
                  bif decide (0 ≤ a4) then
                    bif decide (a4 < ((a2.length + 1 : Nat) : Int)) then
                      let v13 : (List Int) := a2.drop (Int.toNat (a4))
                      bif fits (v12.length + v13.length) 8 then
                        let v14 : List Int := v12 ++ v13
                        some (v14, (), ())
                      else none
                    else none
                  else none
                else none
              else none
            else none
          else none
      else none
    else none
  else
    bif decide (0 ≤ a4) then
      bif decide (a4 < ((a2.length + 1 : Nat) : Int)) then
        let v15 : (List Int) := a2.take (Int.toNat (a4))
        bif fits (([] : List Int).length + v15.length) 8 then
          let v16 : List Int := ([] : List Int) ++ v15
          let v17 : List Int := [a3]
          bif fits (v16.length + v17.length) 8 then
            let v18 : List Int := v16 ++ v17
            bif decide (0 ≤ a4) then
              bif decide (a4 < ((a2.length + 1 : Nat) : Int)) then
                let v19 : (List Int) := a2.drop (Int.toNat (a4))
                bif fits (v18.length + v19.length) 8 then
                  let v20 : List Int := v18 ++ v19
                  some (v20, (), ())
                else none
              else none
            else none
          else none
        else none
      else none
    else none
@[reducible] def ff171 : FForm := ⟨[.a (.a (.dat (.sl 3 (.int .i64)))), .a (.a (.dat (.int .i64)))], [], .a (.a (.a (.dat (.sl 3 (.int .i64))))), []⟩
def G171 (x : ff171.X) : Option ff171.A := F171 x.1.1 x.1.2.1
noncomputable def cs171 : List (Nat × Spec) := []
@[reducible] def lB171_2 : Form := ⟨[(0, .a (.a (.a (.dat (.sl 3 (.int .i64)))))), (1, .a (.a (.a (.dat (.int .i64))))), (5, .a (.a (.a (.dat (.int .i64)))))], []⟩
@[reducible] def oB171_2 : List (Nat × Form) := [(2, ⟨[(0, .a (.a (.a (.dat (.sl 3 (.int .i64)))))), (1, .a (.a (.a (.dat (.int .i64))))), (5, .a (.a (.a (.dat (.int .i64)))))], []⟩)]
noncomputable def E171 : Env := { ty := ty, ntmps := 48, nio := 2, objs := objOf [(4, 0), (34, 0)], loud := loudOf [], calls := specOf (cs171), muts := mutOf [], loops := loopOf [(2, loopSpec 2 lB171_2 oB171_2 B171_2)] }
theorem hc171 : ∀ f, CallOK Try.prog f (E171.calls f) := specOf_ok (by intro p hp; cases hp)
noncomputable def c171 : Code := bodyOf Try.f171
noncomputable def c171_0 : Code := (loopsOf c171).getD 0 .skip
theorem L171_0 : LoopOK Try.prog (E171) c171_0 := loop_ok ty_ok (hc171) mixed (F := lB171_2) (outs := oB171_2) (B := B171_2) (by kernel_rfl) (by kernel_rfl) (by kernel_rfl) (loops_nth 0 (by kernel_rfl) (fun i hi => absurd hi (Nat.not_lt_zero i))) (fun x => by kernel_rfl)
theorem S171 : CallOK Try.prog 171 (ff171.spec G171) := fn_ok (E := E171) (c := c171) (F := ff171) (G := G171) ty_ok (hc171) mixed Try.func171 (by kernel_rfl) (by kernel_rfl) (by kernel_rfl) (by kernel_rfl) (by kernel_rfl) (by kernel_rfl) (loops_nth 1 (by kernel_rfl) (fun i hi => match i, hi with | 0, _ => L171_0)) (fun x => by kernel_rfl)
/-! spec.KsUpTo -/
def B25_8 (x : ((Int × Int × (List Int) × Int × Int × Unit) × (Unit))) : Option (((Int × Int × (List Int) × Int × Int × Unit) × (Unit)) ⊕ (((Int × Int × (List Int) × Int × Unit) × (Unit)))) :=
  let a1 := x.1.1
  let a2 := x.1.2.1
  let a3 := x.1.2.2.1
  let a4 := x.1.2.2.2.1
  let a5 := x.1.2.2.2.2.1
  let v6 : Bool := decide (a5 ≤ a4)
  bif v6 then
    Option.bind (F29 a4 a5 a1) fun r7 =>
    bif r7.1.2.1 then
      Option.bind (F171 a3 r7.1.1) fun r8 =>
      let v9 : Int := IntKind.wrap .i64 (a5 + 1)
      some (.inl ((a1, a2, r8.1, a4, v9, ()), ()))
    else
      let v10 : Int := IntKind.wrap .i64 (a5 + 1)
      some (.inl ((a1, a2, a3, a4, v10, ()), ()))
  else some (.inr ((a1, a2, a3, a4, ()), ()))
def B25_5 (x : ((Int × Int × (List Int) × Int × Unit) × (Unit))) : Option (((Int × Int × (List Int) × Int × Unit) × (Unit)) ⊕ ((((List Int) × Unit) × (Unit)))) :=
  let a1 := x.1.1
  let a2 := x.1.2.1
  let a3 := x.1.2.2.1
  let a4 := x.1.2.2.2.1
  let v5 : Bool := decide (a4 ≤ a2)
  bif v5 then
    Option.bind (Loop B25_8 ((a1, a2, a3, a4, 1, ()), ())) fun r6 =>
    let a7 := r6.1.1
    let a8 := r6.1.2.1
    let a9 := r6.1.2.2.1
    let a10 := r6.1.2.2.2.1
    let v11 : Int := IntKind.wrap .i64 (a10 + 1)
    some (.inl ((a7, a8, a9, v11, ()), ()))
  else some (.inr ((a3, ()), ()))
def F25 (x0 : Int) (x1 : Int) : Option (((List Int) × Bool × Unit) × (Unit) × (Unit)) :=
  Option.bind (F165 1 x0 x1) fun r1 =>
  let v2 : Bool := !r1.1
  bif v2 then
    some ((([] : List Int), false, ()), (), ())
  else
    Option.bind (Loop B25_5 ((x0, x1, ([] : List Int), 1, ()), ())) fun r3 =>
    let a4 := r3.1.1
    some ((a4, true, ()), (), ())
@[reducible] def ff25 : FForm := ⟨[.a (.a (.dat (.int .i64))), .a (.a (.dat (.int .i64)))], [], .tup [.a (.a (.dat (.sl 3 (.int .i64)))), .a (.a (.dat .bool))], []⟩
def G25 (x : ff25.X) : Option ff25.A := F25 x.1.1 x.1.2.1
noncomputable def cs25 : List (Nat × Spec) := [(29, (ff29.spec G29)), (165, (ff165.spec G165)), (171, (ff171.spec G171))]
@[reducible] def lB25_8 : Form := ⟨[(0, .a (.a (.a (.dat (.int .i64))))), (1, .a (.a (.a (.dat (.int .i64))))), (6, .a (.a (.a (.dat (.sl 3 (.int .i64)))))), (7, .a (.a (.a (.dat (.int .i64))))), (8, .a (.a (.a (.dat (.int .i64)))))], []⟩
@[reducible] def oB25_8 : List (Nat × Form) := [(4, ⟨[(0, .a (.a (.a (.dat (.int .i64))))), (1, .a (.a (.a (.dat (.int .i64))))), (6, .a (.a (.a (.dat (.sl 3 (.int .i64)))))), (7, .a (.a (.a (.dat (.int .i64)))))], []⟩)]
@[reducible] def lB25_5 : Form := ⟨[(0, .a (.a (.a (.dat (.int .i64))))), (1, .a (.a (.a (.dat (.int .i64))))), (6, .a (.a (.a (.dat (.sl 3 (.int .i64)))))), (7, .a (.a (.a (.dat (.int .i64)))))], []⟩
@[reducible] def oB25_5 : List (Nat × Form) := [(2, ⟨[(6, .a (.a (.a (.dat (.sl 3 (.int .i64))))))], []⟩)]
noncomputable def E25 : Env := { ty := ty, ntmps := 37, nio := 2, objs := objOf [], loud := loudOf [], calls := specOf (cs25), muts := mutOf [], loops := loopOf [(8, loopSpec 2 lB25_8 oB25_8 B25_8), (5, loopSpec 2 lB25_5 oB25_5 B25_5)] }
theorem hc25 : ∀ f, CallOK Try.prog f ((E25).calls f) := specOf_ok (by
  intro p hp
  simp only [cs25, List.mem_cons, List.not_mem_nil, or_false] at hp
  rcases hp with rfl | rfl | rfl
  · exact S29
  · exact S165
  · exact S171)
noncomputable def c25 : Code := bodyOf Try.f25
noncomputable def c25_0 : Code := (loopsOf c25).getD 0 .skip
noncomputable def c25_0_0 : Code := (loopsOf c25_0).getD 0 .skip
theorem L25_0_0 : LoopOK Try.prog (E25) c25_0_0 := loop_ok ty_ok (hc25) mixed (F := lB25_8) (outs := oB25_8) (B := B25_8) (by kernel_rfl) (by kernel_rfl) (by kernel_rfl) (loops_nth 0 (by kernel_rfl) (fun i hi => absurd hi (Nat.not_lt_zero i))) (fun x => by kernel_rfl)
theorem L25_0 : LoopOK Try.prog (E25) c25_0 := loop_ok ty_ok (hc25) mixed (F := lB25_5) (outs := oB25_5) (B := B25_5) (by kernel_rfl) (by kernel_rfl) (by kernel_rfl) (loops_nth 1 (by kernel_rfl) (fun i hi => match i, hi with | 0, _ => L25_0_0)) (fun x => by kernel_rfl)
theorem S25 : CallOK Try.prog 25 (ff25.spec G25) := fn_ok (E := E25) (c := c25) (F := ff25) (G := G25) ty_ok (hc25) mixed Try.func25 (by kernel_rfl) (by kernel_rfl) (by kernel_rfl) (by kernel_rfl) (by kernel_rfl) (by kernel_rfl) (loops_nth 1 (by kernel_rfl) (fun i hi => match i, hi with | 0, _ => L25_0)) (fun x => by kernel_rfl)
/-! (*spec.l1Cur).jump -/
def B172_6 (x : ((Unit × Int × Int × Int × Int × Int × Unit) × (((List Int) × Int × Int × Unit) × Unit))) : Option (((Unit × Int × Int × Int × Int × Int × Unit) × (((List Int) × Int × Int × Unit) × Unit)) ⊕ (((Unit × Int × Int × Int × Int × Unit) × (((List Int) × Int × Int × Unit) × Unit)))) :=
  let a1 := x.1.2.1
  let a2 := x.1.2.2.1
  let a3 := x.1.2.2.2.1
  let a4 := x.1.2.2.2.2.1
  let a5 := x.1.2.2.2.2.2.1
  let a6 := x.2.1.1
  let a7 := x.2.1.2.1
  let a8 := x.2.1.2.2.1
  let v9 : Bool := decide (a5 > 0)
  bif v9 then
    let v10 : Int := IntKind.wrap .i64 (a3 * a1)
    let v11 : Int := IntKind.wrap .i64 (v10 - a2)
    Option.bind (F173 v11 a1 100000) fun r12 =>
    bif r12.1 then
      let v13 : Int := IntKind.wrap .i64 (a5 - 1)
      some (.inl (((), v11, a1, a3, a4, v13, ()), ((a6, a7, a8, ()), ())))
    else
      let v14 : Int := IntKind.wrap .i64 (a5 - 1)
      some (.inl (((), a1, a2, a3, a4, v14, ()), ((a6, a7, a8, ()), ())))
  else some (.inr (((), a1, a2, a3, a4, ()), ((a6, a7, a8, ()), ())))
def F172 (x0 : (List Int)) (x1 : Int) (x2 : Int) : Option ((Int × Int × Int × Int × Unit) × (((List Int) × Int × Int × Unit) × Unit) × (Unit)) :=
  Option.bind (F230 12 x0 x1 x2) fun r1 =>
  let v2 : Int := IntKind.wrap .i64 (1 + r1.1)
  let v3 : Int := IntKind.wrap .i64 (v2 + 1)
  Option.bind (F230 v3 r1.2.1.1.1 r1.2.1.1.2.1 r1.2.1.1.2.2.1) fun r4 =>
  Option.bind (F230 7 r4.2.1.1.1 r4.2.1.1.2.1 r4.2.1.1.2.2.1) fun r5 =>
  let v6 : Int := IntKind.wrap .i64 (1 + r5.1)
  let v7 : Int := IntKind.wrap .i64 (v6 * v2)
  let v8 : Int := IntKind.wrap .i64 (v7 * r4.1)
  let v9 : Int := IntKind.wrap .i64 (v2 * v2)
  let v10 : Int := IntKind.wrap .i64 (v8 - v9)
  let v11 : Int := IntKind.wrap .i64 (r4.1 * r4.1)
  let v12 : Int := IntKind.wrap .i64 (v10 - v11)
  Option.bind (F230 6 r5.2.1.1.1 r5.2.1.1.2.1 r5.2.1.1.2.2.1) fun r13 =>
  Option.bind (Loop B172_6 (((), v2, r4.1, v6, v12, r13.1, ()), ((r13.2.1.1.1, r13.2.1.1.2.1, r13.2.1.1.2.2.1, ()), ()))) fun r14 =>
  let a15 := r14.1.2.1
  let a16 := r14.1.2.2.1
  let a17 := r14.1.2.2.2.1
  let a18 := r14.1.2.2.2.2.1
  let a19 := r14.2.1.1
  let a20 := r14.2.1.2.1
  let a21 := r14.2.1.2.2.1
  Option.bind (F230 14 a19 a20 a21) fun r22 =>
  let v23 : Bool := (r22.1 == 0 : Bool)
  bif v23 then
    let v24 : List Int := [(-1), 0, 1000000, 1000001, 4611686018427387904]
    Option.bind (F212 v24 r22.2.1.1.1 r22.2.1.1.2.1 r22.2.1.1.2.2.1) fun r25 =>
    some ((r25.1, a16, a17, a18, ()), ((r25.2.1.1.1, r25.2.1.1.2.1, r25.2.1.1.2.2.1, ()), ()), ())
  else
    let v26 : Bool := (r22.1 == 1 : Bool)
    bif v26 then
      let v27 : Int := IntKind.wrap .i64 (a15 + 1)
      let v28 : List Int := [(-1), 0, a15, v27]
      Option.bind (F212 v28 r22.2.1.1.1 r22.2.1.1.2.1 r22.2.1.1.2.2.1) fun r29 =>
      some ((a15, r29.1, a17, a18, ()), ((r29.2.1.1.1, r29.2.1.1.2.1, r29.2.1.1.2.2.1, ()), ()), ())
    else
      let v30 : Bool := (r22.1 == 2 : Bool)
      bif v30 then
        let v31 : List Int := [(-1), 0, 1, 1000, 1001]
        Option.bind (F212 v31 r22.2.1.1.1 r22.2.1.1.2.1 r22.2.1.1.2.2.1) fun r32 =>
        some ((a15, a16, r32.1, a18, ()), ((r32.2.1.1.1, r32.2.1.1.2.1, r32.2.1.1.2.2.1, ()), ()), ())
      else
        let v33 : Bool := (r22.1 == 3 : Bool)
        bif v33 then
          let v34 : List Int := [(-1001), (-1000), 1000, 1001]
          Option.bind (F212 v34 r22.2.1.1.1 r22.2.1.1.2.1 r22.2.1.1.2.2.1) fun r35 =>
          some ((a15, a16, a17, r35.1, ()), ((r35.2.1.1.1, r35.2.1.1.2.1, r35.2.1.1.2.2.1, ()), ()), ())
        else some ((a15, a16, a17, a18, ()), ((r22.2.1.1.1, r22.2.1.1.2.1, r22.2.1.1.2.2.1, ()), ()), ())
@[reducible] def ff172 : FForm := ⟨[.a (.a (.ptr 0 0))], [(0, .box [.a (.dat (.sl 5 (.int .u8))), .a (.dat (.int .i64)), .a (.dat (.int .u64))])], .tup [.a (.a (.dat (.int .i64))), .a (.a (.dat (.int .i64))), .a (.a (.dat (.int .i64))), .a (.a (.dat (.int .i64)))], []⟩
def G172 (x : ff172.X) : Option ff172.A := F172 x.2.1.1 x.2.1.2.1 x.2.1.2.2.1
noncomputable def cs172 : List (Nat × Spec) := [(173, (ff173.spec G173)), (212, (ff212.spec G212)), (230, (ff230.spec G230))]
@[reducible] def lB172_6 : Form := ⟨[(0, .a (.a (.a (.ptr 0 0)))), (6, .a (.a (.a (.dat (.int .i64))))), (7, .a (.a (.a (.dat (.int .i64))))), (8, .a (.a (.a (.dat (.int .i64))))), (9, .a (.a (.a (.dat (.int .i64))))), (10, .a (.a (.a (.dat (.int .i64)))))], [(0, .box [.a (.dat (.sl 5 (.int .u8))), .a (.dat (.int .i64)), .a (.dat (.int .u64))])]⟩
@[reducible] def oB172_6 : List (Nat × Form) := [(2, ⟨[(0, .a (.a (.a (.ptr 0 0)))), (6, .a (.a (.a (.dat (.int .i64))))), (7, .a (.a (.a (.dat (.int .i64))))), (8, .a (.a (.a (.dat (.int .i64))))), (9, .a (.a (.a (.dat (.int .i64)))))], [(0, .box [.a (.dat (.sl 5 (.int .u8))), .a (.dat (.int .i64)), .a (.dat (.int .u64))])]⟩)]
noncomputable def E172 : Env := { ty := ty, ntmps := 80, nio := 1, objs := objOf [], loud := loudOf [], calls := specOf (cs172), muts := mutOf [], loops := loopOf [(6, loopSpec 1 lB172_6 oB172_6 B172_6)] }
theorem hc172 : ∀ f, CallOK Try.prog f ((E172).calls f) := specOf_ok (by
  intro p hp
  simp only [cs172, List.mem_cons, List.not_mem_nil, or_false] at hp
  rcases hp with rfl | rfl | rfl
  · exact S173
  · exact S212
  · exact S230)
noncomputable def c172 : Code := bodyOf Try.f172
noncomputable def c172_0 : Code := (loopsOf c172).getD 0 .skip
theorem L172_0 : LoopOK Try.prog (E172) c172_0 := loop_ok ty_ok (hc172) mixed (F := lB172_6) (outs := oB172_6) (B := B172_6) (by kernel_rfl) (by kernel_rfl) (by kernel_rfl) (loops_nth 0 (by kernel_rfl) (fun i hi => absurd hi (Nat.not_lt_zero i))) (fun x => by kernel_rfl)
theorem S172 : CallOK Try.prog 172 (ff172.spec G172) := fn_ok (E := E172) (c := c172) (F := ff172) (G := G172) ty_ok (hc172) mixed Try.func172 (by kernel_rfl) (by kernel_rfl) (by kernel_rfl) (by kernel_rfl) (by kernel_rfl) (by kernel_rfl) (loops_nth 1 (by kernel_rfl) (fun i hi => match i, hi with | 0, _ => L172_0)) (fun x => by kernel_rfl)
/-! spec.DrawKOfPair -/
def F27 (x0 : (List Int)) : Option ((Int × Int × Int × Unit) × (Unit) × (Unit)) :=
  Option.bind (F172 x0 0 0) fun r1 =>
  some ((r1.1.1, r1.1.2.1, r1.1.2.2.2.1, ()), (), ())
@[reducible] def ff27 : FForm := ⟨[.a (.a (.dat (.sl 5 (.int .u8))))], [], .tup [.a (.a (.dat (.int .i64))), .a (.a (.dat (.int .i64))), .a (.a (.dat (.int .i64)))], []⟩
def G27 (x : ff27.X) : Option ff27.A := F27 x.1.1
noncomputable def cs27 : List (Nat × Spec) := [(172, (ff172.spec G172))]
noncomputable def E27 : Env := { ty := ty, ntmps := 23, nio := 1, objs := objOf [], loud := loudOf [], calls := specOf (cs27), muts := mutOf [], loops := loopOf [] }
theorem hc27 : ∀ f, CallOK Try.prog f ((E27).calls f) := specOf_ok (by
  intro p hp
  simp only [cs27, List.mem_cons, List.not_mem_nil, or_false] at hp
  rcases hp with rfl
  · exact S172)
noncomputable def c27 : Code := bodyOf Try.f27
theorem S27 : CallOK Try.prog 27 (ff27.spec G27) := fn_ok (E := E27) (c := c27) (F := ff27) (G := G27) ty_ok (hc27) mixed Try.func27 (by kernel_rfl) (by kernel_rfl) (by kernel_rfl) (by kernel_rfl) (by kernel_rfl) (by kernel_rfl) (loops_nth 0 (by kernel_rfl) (fun i hi => absurd hi (Nat.not_lt_zero i))) (fun x => by kernel_rfl)
/-! impl.KOfPair -/
def F28 (x0 : Int) (x1 : Int) (x2 : Int) : Option ((Int × Bool × Unit) × (Unit) × (Unit)) :=
  Option.bind (F169 x1 1 1000000) fun r1 =>
  let v2 : Bool := !r1.1
  bif v2 then
    some ((0, false, ()), (), ())
  else
    Option.bind (F169 x0 x1 1000000) fun r3 =>
    let v4 : Bool := !r3.1
    bif v4 then
      some ((0, false, ()), (), ())
    else
      Option.bind (F169 x2 (-1000) 1000) fun r5 =>
      let v6 : Bool := !r5.1
      bif v6 then
        some ((0, false, ()), (), ())
      else
        Option.bind (F170 x0 x1 x2) fun r7 =>
        some ((r7.1.1, r7.1.2.1, ()), (), ())
@[reducible] def ff28 : FForm := ⟨[.a (.a (.dat (.int .i64))), .a (.a (.dat (.int .i64))), .a (.a (.dat (.int .i64)))], [], .tup [.a (.a (.dat (.int .i64))), .a (.a (.dat .bool))], []⟩
def G28 (x : ff28.X) : Option ff28.A := F28 x.1.1 x.1.2.1 x.1.2.2.1
noncomputable def cs28 : List (Nat × Spec) := [(169, (ff169.spec G169)), (170, (ff170.spec G170))]
noncomputable def E28 : Env := { ty := ty, ntmps := 28, nio := 3, objs := objOf [], loud := loudOf [], calls := specOf (cs28), muts := mutOf [], loops := loopOf [] }
theorem hc28 : ∀ f, CallOK Try.prog f ((E28).calls f) := specOf_ok (by
  intro p hp
  simp only [cs28, List.mem_cons, List.not_mem_nil, or_false] at hp
  rcases hp with rfl | rfl
  · exact S169
  · exact S170)
noncomputable def c28 : Code := bodyOf Try.f28
theorem S28 : CallOK Try.prog 28 (ff28.spec G28) := fn_ok (E := E28) (c := c28) (F := ff28) (G := G28) ty_ok (hc28) mixed Try.func28 (by kernel_rfl) (by kernel_rfl) (by kernel_rfl) (by kernel_rfl) (by kernel_rfl) (by kernel_rfl) (loops_nth 0 (by kernel_rfl) (fun i hi => absurd hi (Nat.not_lt_zero i))) (fun x => by kernel_rfl)
/-! impl.IsJump -/
def F176 (x0 : Int) (x1 : Int) (x2 : Int) (x3 : Int) : Option ((Bool × Bool × Unit) × (Unit) × (Unit)) :=
  Option.bind (F290 x2 x3) fun r1 =>
  let v2 : Bool := !r1.1
  bif v2 then
    some ((false, false, ()), (), ())
  else
    Option.bind (F291 x0 x1 x2 x3) fun r3 =>
    some ((r3.1, true, ()), (), ())
@[reducible] def ff176 : FForm := ⟨[.a (.a (.dat (.int .i64))), .a (.a (.dat (.int .i64))), .a (.a (.dat (.int .i64))), .a (.a (.dat (.int .i64)))], [], .tup [.a (.a (.dat .bool)), .a (.a (.dat .bool))], []⟩
def G176 (x : ff176.X) : Option ff176.A := F176 x.1.1 x.1.2.1 x.1.2.2.1 x.1.2.2.2.1
noncomputable def cs176 : List (Nat × Spec) := [(290, (ff290.spec G290)), (291, (ff291.spec G291))]
noncomputable def E176 : Env := { ty := ty, ntmps := 19, nio := 4, objs := objOf [], loud := loudOf [], calls := specOf (cs176), muts := mutOf [], loops := loopOf [] }
theorem hc176 : ∀ f, CallOK Try.prog f ((E176).calls f) := specOf_ok (by
  intro p hp
  simp only [cs176, List.mem_cons, List.not_mem_nil, or_false] at hp
  rcases hp with rfl | rfl
  · exact S290
  · exact S291)
noncomputable def c176 : Code := bodyOf Try.f176
theorem S176 : CallOK Try.prog 176 (ff176.spec G176) := fn_ok (E := E176) (c := c176) (F := ff176) (G := G176) ty_ok (hc176) mixed Try.func176 (by kernel_rfl) (by kernel_rfl) (by kernel_rfl) (by kernel_rfl) (by kernel_rfl) (by kernel_rfl) (loops_nth 0 (by kernel_rfl) (fun i hi => absurd hi (Nat.not_lt_zero i))) (fun x => by kernel_rfl)
/-! laws.vPair -/
def F30 (x0 : Int) (x1 : Int) (x2 : Int) (x3 : Int) : Option (Bool × (Unit) × (Unit)) :=
  Option.bind (F176 x0 x1 x2 x3) fun r1 =>
  bif r1.1.2.1 then
    some (r1.1.1, (), ())
  else some (false, (), ())
@[reducible] def ff30 : FForm := ⟨[.a (.a (.dat (.int .i64))), .a (.a (.dat (.int .i64))), .a (.a (.dat (.int .i64))), .a (.a (.dat (.int .i64)))], [], .a (.a (.a (.dat .bool))), []⟩
def G30 (x : ff30.X) : Option ff30.A := F30 x.1.1 x.1.2.1 x.1.2.2.1 x.1.2.2.2.1
noncomputable def cs30 : List (Nat × Spec) := [(176, (ff176.spec G176))]
noncomputable def E30 : Env := { ty := ty, ntmps := 23, nio := 4, objs := objOf [], loud := loudOf [], calls := specOf (cs30), muts := mutOf [], loops := loopOf [] }
theorem hc30 : ∀ f, CallOK Try.prog f ((E30).calls f) := specOf_ok (by
  intro p hp
  simp only [cs30, List.mem_cons, List.not_mem_nil, or_false] at hp
  rcases hp with rfl
  · exact S176)
noncomputable def c30 : Code := bodyOf Try.f30
theorem S30 : CallOK Try.prog 30 (ff30.spec G30) := fn_ok (E := E30) (c := c30) (F := ff30) (G := G30) ty_ok (hc30) mixed Try.func30 (by kernel_rfl) (by kernel_rfl) (by kernel_rfl) (by kernel_rfl) (by kernel_rfl) (by kernel_rfl) (loops_nth 0 (by kernel_rfl) (fun i hi => absurd hi (Nat.not_lt_zero i))) (fun x => by kernel_rfl)
/-! impl.isJumper -/
def F177 (x0 : Int) (x1 : Int) (x2 : Int) (x3 : Int) : Option (Bool × (Unit) × (Unit)) :=
  Option.bind (F290 x2 x3) fun r1 =>
  bif r1.1 then
    Option.bind (F291 x0 x1 x2 x3) fun r2 =>
    some (r2.1, (), ())
  else some (false, (), ())
@[reducible] def ff177 : FForm := ⟨[.a (.a (.dat (.int .i64))), .a (.a (.dat (.int .i64))), .a (.a (.dat (.int .i64))), .a (.a (.dat (.int .i64)))], [], .a (.a (.a (.dat .bool))), []⟩
def G177 (x : ff177.X) : Option ff177.A := F177 x.1.1 x.1.2.1 x.1.2.2.1 x.1.2.2.2.1
noncomputable def cs177 : List (Nat × Spec) := [(290, (ff290.spec G290)), (291, (ff291.spec G291))]
noncomputable def E177 : Env := { ty := ty, ntmps := 19, nio := 4, objs := objOf [], loud := loudOf [], calls := specOf (cs177), muts := mutOf [], loops := loopOf [] }
theorem hc177 : ∀ f, CallOK Try.prog f ((E177).calls f) := specOf_ok (by
  intro p hp
  simp only [cs177, List.mem_cons, List.not_mem_nil, or_false] at hp
  rcases hp with rfl | rfl
  · exact S290
  · exact S291)
noncomputable def c177 : Code := bodyOf Try.f177
theorem S177 : CallOK Try.prog 177 (ff177.spec G177) := fn_ok (E := E177) (c := c177) (F := ff177) (G := G177) ty_ok (hc177) mixed Try.func177 (by kernel_rfl) (by kernel_rfl) (by kernel_rfl) (by kernel_rfl) (by kernel_rfl) (by kernel_rfl) (loops_nth 0 (by kernel_rfl) (fun i hi => absurd hi (Nat.not_lt_zero i))) (fun x => by kernel_rfl)
/-! impl.LeastPair -/
def B31_3 (x : ((Int × Int × Int × Unit) × (Unit))) : Option (((Int × Int × Int × Unit) × (Unit)) ⊕ (((Int × Int × Bool × Unit) × (Unit)))) :=
  let a1 := x.1.1
  let a2 := x.1.2.1
  let a3 := x.1.2.2.1
  Option.bind (F168 a1 a2 a3) fun r4 =>
  let v5 : Bool := !r4.1.2.2.1
  bif v5 then
    some (.inr ((a1, a2, true, ()), ()))
  else some (.inl ((r4.1.1, r4.1.2.1, a3, ()), ()))
def F31 (x0 : Int) (x1 : Int) (x2 : Int) (x3 : Int) : Option ((Int × Int × Bool × Unit) × (Unit) × (Unit)) :=
  Option.bind (F177 x0 x1 x2 x3) fun r1 =>
  let v2 : Bool := !r1.1
  bif v2 then
    some ((0, 0, false, ()), (), ())
  else
    Option.bind (Loop B31_3 ((x0, x1, x2, ()), ())) fun r3 =>
    let a4 := r3.1.1
    let a5 := r3.1.2.1
    let a6 := r3.1.2.2.1
    some ((a4, a5, a6, ()), (), ())
@[reducible] def ff31 : FForm := ⟨[.a (.a (.dat (.int .i64))), .a (.a (.dat (.int .i64))), .a (.a (.dat (.int .i64))), .a (.a (.dat (.int .i64)))], [], .tup [.a (.a (.dat (.int .i64))), .a (.a (.dat (.int .i64))), .a (.a (.dat .bool))], []⟩
def G31 (x : ff31.X) : Option ff31.A := F31 x.1.1 x.1.2.1 x.1.2.2.1 x.1.2.2.2.1
noncomputable def cs31 : List (Nat × Spec) := [(168, (ff168.spec G168)), (177, (ff177.spec G177))]
@[reducible] def lB31_3 : Form := ⟨[(0, .a (.a (.a (.dat (.int .i64))))), (1, .a (.a (.a (.dat (.int .i64))))), (2, .a (.a (.a (.dat (.int .i64)))))], []⟩
@[reducible] def oB31_3 : List (Nat × Form) := [(1, ⟨[(8, .a (.a (.a (.dat (.int .i64))))), (9, .a (.a (.a (.dat (.int .i64))))), (10, .a (.a (.a (.dat .bool))))], []⟩)]
noncomputable def E31 : Env := { ty := ty, ntmps := 34, nio := 4, objs := objOf [], loud := loudOf [], calls := specOf (cs31), muts := mutOf [], loops := loopOf [(3, loopSpec 4 lB31_3 oB31_3 B31_3)] }
theorem hc31 : ∀ f, CallOK Try.prog f ((E31).calls f) := specOf_ok (by
  intro p hp
  simp only [cs31, List.mem_cons, List.not_mem_nil, or_false] at hp
  rcases hp with rfl | rfl
  · exact S168
  · exact S177)
noncomputable def c31 : Code := bodyOf Try.f31
noncomputable def c31_0 : Code := (loopsOf c31).getD 0 .skip
theorem L31_0 : LoopOK Try.prog (E31) c31_0 := loop_ok ty_ok (hc31) mixed (F := lB31_3) (outs := oB31_3) (B := B31_3) (by kernel_rfl) (by kernel_rfl) (by kernel_rfl) (loops_nth 0 (by kernel_rfl) (fun i hi => absurd hi (Nat.not_lt_zero i))) (fun x => by kernel_rfl)
theorem S31 : CallOK Try.prog 31 (ff31.spec G31) := fn_ok (E := E31) (c := c31) (F := ff31) (G := G31) ty_ok (hc31) mixed Try.func31 (by kernel_rfl) (by kernel_rfl) (by kernel_rfl) (by kernel_rfl) (by kernel_rfl) (by kernel_rfl) (loops_nth 1 (by kernel_rfl) (fun i hi => match i, hi with | 0, _ => L31_0)) (fun x => by kernel_rfl)
/-! laws.vHas -/
def B32_2 (x : (((List Int) × (List (List Int)) × Int × Int × Unit) × (Unit))) : Option ((((List Int) × (List (List Int)) × Int × Int × Unit) × (Unit)) ⊕ (((Bool × Unit) × (Unit)) ⊕ ((Unit) × (Unit)))) :=
  let a1 := x.1.1
  let a2 := x.1.2.1
  let a3 := x.1.2.2.1
  let a4 := x.1.2.2.2.1
  let v5 : Bool := decide (a4 < a3)
  bif v5 then
    bif decide (0 ≤ a4) then
      bif decide (a4 < ((a2.length : Nat) : Int)) then
        let v6 : (List Int) := a2.getD (Int.toNat (a4)) []
        Option.bind (F26 a1 v6) fun r7 =>
        bif r7.1 then
          some (.inr (.inl ((true, ()), ())))
        else
          let v8 : Int := IntKind.wrap .i64 (a4 + 1)
          some (.inl ((a1, a2, a3, v8, ()), ()))
      else none
    else none
  else some (.inr (.inr ((), ())))
def F32 (x0 : (List (List Int))) (x1 : (List Int)) : Option (Bool × (Unit) × (Unit)) :=
  let v1 : Int := ((x0.length : Nat) : Int)
  Option.bind (Loop B32_2 ((x1, x0, v1, 0, ()), ())) fun r2 =>
  match r2 with
  | .inl r3 =>
    let a5 := r3.1.1
    some (a5, (), ())
  | .inr r4 =>
    some (false, (), ())
@[reducible] def ff32 : FForm := ⟨[.a (.a (.dat (.sl 32 (.sl 3 (.int .i64))))), .a (.a (.dat (.sl 3 (.int .i64))))], [], .a (.a (.a (.dat .bool))), []⟩
def G32 (x : ff32.X) : Option ff32.A := F32 x.1.1 x.1.2.1
noncomputable def cs32 : List (Nat × Spec) := [(26, (ff26.spec G26))]
@[reducible] def lB32_2 : Form := ⟨[(1, .a (.a (.a (.dat (.sl 3 (.int .i64)))))), (7, .a (.a (.a (.dat (.sl 32 (.sl 3 (.int .i64))))))), (8, .a (.a (.a (.dat (.int .i64))))), (9, .a (.a (.a (.dat (.int .i64)))))], []⟩
@[reducible] def oB32_2 : List (Nat × Form) := [(1, ⟨[(4, .a (.a (.a (.dat .bool))))], []⟩), (2, ⟨[], []⟩)]
noncomputable def E32 : Env := { ty := ty, ntmps := 17, nio := 2, objs := objOf [], loud := loudOf [], calls := specOf (cs32), muts := mutOf [], loops := loopOf [(2, loopSpec 2 lB32_2 oB32_2 B32_2)] }
theorem hc32 : ∀ f, CallOK Try.prog f ((E32).calls f) := specOf_ok (by
  intro p hp
  simp only [cs32, List.mem_cons, List.not_mem_nil, or_false] at hp
  rcases hp with rfl
  · exact S26)
noncomputable def c32 : Code := bodyOf Try.f32
noncomputable def c32_0 : Code := (loopsOf c32).getD 0 .skip
theorem L32_0 : LoopOK Try.prog (E32) c32_0 := loop_ok ty_ok (hc32) mixed (F := lB32_2) (outs := oB32_2) (B := B32_2) (by kernel_rfl) (by kernel_rfl) (by kernel_rfl) (loops_nth 0 (by kernel_rfl) (fun i hi => absurd hi (Nat.not_lt_zero i))) (fun x => by kernel_rfl)
theorem S32 : CallOK Try.prog 32 (ff32.spec G32) := fn_ok (E := E32) (c := c32) (F := ff32) (G := G32) ty_ok (hc32) mixed Try.func32 (by kernel_rfl) (by kernel_rfl) (by kernel_rfl) (by kernel_rfl) (by kernel_rfl) (by kernel_rfl) (loops_nth 1 (by kernel_rfl) (fun i hi => match i, hi with | 0, _ => L32_0)) (fun x => by kernel_rfl)
/-! laws.vBefore -/
def B33_2 (x : (((List Int) × (List Int) × Int × Unit) × (Unit))) : Option ((((List Int) × (List Int) × Int × Unit) × (Unit)) ⊕ (((Bool × Unit) × (Unit)) ⊕ (((List Int) × (List Int) × Unit) × (Unit)))) :=
  let a1 := x.1.1
  let a2 := x.1.2.1
  let a3 := x.1.2.2.1
  let v4 : Int := ((a1.length : Nat) : Int)
  let v5 : Bool := decide (a3 < v4)
  bif v5 then
    let v6 : Int := ((a2.length : Nat) : Int)
    let v7 : Bool := decide (a3 < v6)
    bif v7 then
      bif decide (0 ≤ a3) then
        bif decide (a3 < ((a1.length : Nat) : Int)) then
          let v8 : Int := a1.getD (Int.toNat (a3)) 0
          bif decide (0 ≤ a3) then
            bif decide (a3 < ((a2.length : Nat) : Int)) then
              let v9 : Int := a2.getD (Int.toNat (a3)) 0
              let v10 : Bool := (v8 != v9 : Bool)
              bif v10 then
                bif decide (0 ≤ a3) then
                  bif decide (a3 < ((a1.length : Nat) : Int)) then
                    let v11 : Int := a1.getD (Int.toNat (a3)) 0
                    bif decide (0 ≤ a3) then
                      bif decide (a3 < ((a2.length : Nat) : Int)) then
                        let v12 : Int := a2.getD (Int.toNat (a3)) 0
                        let v13 : Bool := decide (v11 < v12)
                        some (.inr (.inl ((v13, ()), ())))
                      else none
                    else none
                  else none
                else none
              else
                let v14 : Int := IntKind.wrap .i64 (a3 + 1)
                some (.inl ((a1, a2, v14, ()), ()))
            else none
          else none
        else none
      else none
    else some (.inr (.inr ((a1, a2, ()), ())))
  else some (.inr (.inr ((a1, a2, ()), ())))
def F33 (x0 : (List Int)) (x1 : (List Int)) : Option (Bool × (Unit) × (Unit)) :=
  Option.bind (Loop B33_2 ((x0, x1, 0, ()), ())) fun r1 =>
  match r1 with
  | .inl r2 =>
    let a4 := r2.1.1
    some (a4, (), ())
  | .inr r3 =>
    let a5 := r3.1.1
    let a6 := r3.1.2.1
    let v7 : Int := ((a5.length : Nat) : Int)
    let v8 : Int := ((a6.length : Nat) : Int)
    let v9 : Bool := decide (v7 < v8)
    some (v9, (), ())
@[reducible] def ff33 : FForm := ⟨[.a (.a (.dat (.sl 3 (.int .i64)))), .a (.a (.dat (.sl 3 (.int .i64))))], [], .a (.a (.a (.dat .bool))), []⟩
def G33 (x : ff33.X) : Option ff33.A := F33 x.1.1 x.1.2.1
noncomputable def cs33 : List (Nat × Spec) := []
@[reducible] def lB33_2 : Form := ⟨[(0, .a (.a (.a (.dat (.sl 3 (.int .i64)))))), (1, .a (.a (.a (.dat (.sl 3 (.int .i64)))))), (5, .a (.a (.a (.dat (.int .i64)))))], []⟩
@[reducible] def oB33_2 : List (Nat × Form) := [(1, ⟨[(4, .a (.a (.a (.dat .bool))))], []⟩), (2, ⟨[(0, .a (.a (.a (.dat (.sl 3 (.int .i64)))))), (1, .a (.a (.a (.dat (.sl 3 (.int .i64))))))], []⟩)]
noncomputable def E33 : Env := { ty := ty, ntmps := 41, nio := 2, objs := objOf [], loud := loudOf [], calls := specOf (cs33), muts := mutOf [], loops := loopOf [(2, loopSpec 2 lB33_2 oB33_2 B33_2)] }
theorem hc33 : ∀ f, CallOK Try.prog f (E33.calls f) := specOf_ok (by intro p hp; cases hp)
noncomputable def c33 : Code := bodyOf Try.f33
noncomputable def c33_0 : Code := (loopsOf c33).getD 0 .skip
theorem L33_0 : LoopOK Try.prog (E33) c33_0 := loop_ok ty_ok (hc33) mixed (F := lB33_2) (outs := oB33_2) (B := B33_2) (by kernel_rfl) (by kernel_rfl) (by kernel_rfl) (loops_nth 0 (by kernel_rfl) (fun i hi => absurd hi (Nat.not_lt_zero i))) (fun x => by kernel_rfl)
theorem S33 : CallOK Try.prog 33 (ff33.spec G33) := fn_ok (E := E33) (c := c33) (F := ff33) (G := G33) ty_ok (hc33) mixed Try.func33 (by kernel_rfl) (by kernel_rfl) (by kernel_rfl) (by kernel_rfl) (by kernel_rfl) (by kernel_rfl) (loops_nth 1 (by kernel_rfl) (fun i hi => match i, hi with | 0, _ => L33_0)) (fun x => by kernel_rfl)
/-! laws.FnClassesOfPairs -/
def B3_17 (x : (((List Int) × Int × Int × Int × (List (List Int)) × Bool × (List (List Int)) × (List Int) × Int × Int × Unit) × (Unit))) : Option ((((List Int) × Int × Int × Int × (List (List Int)) × Bool × (List (List Int)) × (List Int) × Int × Int × Unit) × (Unit)) ⊕ (((Bool × Unit) × (Unit)) ⊕ (((List Int) × Int × Int × Int × (List (List Int)) × Bool × (List (List Int)) × Unit) × (Unit)))) :=
  let a1 := x.1.1
  let a2 := x.1.2.1
  let a3 := x.1.2.2.1
  let a4 := x.1.2.2.2.1
  let a5 := x.1.2.2.2.2.1
  let a6 := x.1.2.2.2.2.2.1
  let a7 := x.1.2.2.2.2.2.2.1
  let a8 := x.1.2.2.2.2.2.2.2.1
  let a9 := x.1.2.2.2.2.2.2.2.2.1
  let a10 := x.1.2.2.2.2.2.2.2.2.2.1
  let v11 : Bool := decide (a10 < a9)
  bif v11 then
    bif decide (0 ≤ a10) then
      bif decide (a10 < ((a8.length : Nat) : Int)) then
        let v12 : Int := a8.getD (Int.toNat (a10)) 0
        let v13 : Bool := (v12 != 3 : Bool)
        bif v13 then
          some (.inr (.inl ((false, ()), ())))
        else
          let v14 : Int := IntKind.wrap .i64 (a10 + 1)
          some (.inl ((a1, a2, a3, a4, a5, a6, a7, a8, a9, v14, ()), ()))
      else none
    else none
  else some (.inr (.inr ((a1, a2, a3, a4, a5, a6, a7, ()), ())))
def B3_30 (x : ((Int × Int × Int × (List (List Int)) × (List (List Int)) × (List (List Int)) × Int × Int × Unit) × (Unit))) : Option (((Int × Int × Int × (List (List Int)) × (List (List Int)) × (List (List Int)) × Int × Int × Unit) × (Unit)) ⊕ (((Bool × Unit) × (Unit)) ⊕ ((Unit) × (Unit)))) :=
  let a1 := x.1.1
  let a2 := x.1.2.1
  let a3 := x.1.2.2.1
  let a4 := x.1.2.2.2.1
  let a5 := x.1.2.2.2.2.1
  let a6 := x.1.2.2.2.2.2.1
  let a7 := x.1.2.2.2.2.2.2.1
  let a8 := x.1.2.2.2.2.2.2.2.1
  let v9 : Bool := decide (a8 < a7)
  bif v9 then
    bif decide (0 ≤ a8) then
      bif decide (a8 < ((a6.length : Nat) : Int)) then
        let v10 : (List Int) := a6.getD (Int.toNat (a8)) []
        bif decide (0 < ((v10.length : Nat) : Int)) then
          let v11 : Int := v10.getD (Int.toNat (0)) 0
          bif decide (1 < ((v10.length : Nat) : Int)) then
            let v12 : Int := v10.getD (Int.toNat (1)) 0
            Option.bind (F31 v11 v12 a1 a2) fun r13 =>
            let v14 : Bool := !r13.1.2.2.1
            bif v14 then
              some (.inr (.inl ((false, ()), ())))
            else
              let v15 : List Int := [r13.1.1, r13.1.2.1]
              Option.bind (F32 a5 v15) fun r16 =>
              let v17 : Bool := !r16.1
              bif v17 then
                some (.inr (.inl ((false, ()), ())))
              else
                bif decide (0 < ((v10.length : Nat) : Int)) then
                  let v18 : Int := v10.getD (Int.toNat (0)) 0
                  bif decide (1 < ((v10.length : Nat) : Int)) then
                    let v19 : Int := v10.getD (Int.toNat (1)) 0
                    Option.bind (F30 v18 v19 a1 a2) fun r20 =>
                    let v21 : Bool := !r20.1
                    bif v21 then
                      some (.inr (.inl ((false, ()), ())))
                    else
                      bif decide (0 < ((v10.length : Nat) : Int)) then
                        let v22 : Int := v10.getD (Int.toNat (0)) 0
                        let v23 : Bool := decide (v22 > a3)
                        bif v23 then
                          some (.inr (.inl ((false, ()), ())))
                        else
                          let v24 : Bool := decide (a8 > 0)
                          bif v24 then
                            let v25 : Int := IntKind.wrap .i64 (a8 - 1)
                            bif decide (0 ≤ v25) then
                              bif decide (v25 < ((a4.length : Nat) : Int)) then
                                let v26 : (List Int) := a4.getD (Int.toNat (v25)) []
                                Option.bind (F33 v26 v10) fun r27 =>
                                let v28 : Bool := !r27.1
                                bif v28 then
                                  some (.inr (.inl ((false, ()), ())))
                                else
                                  let v29 : Int := IntKind.wrap .i64 (a8 + 1)
                                  some (.inl ((a1, a2, a3, a4, a5, a6, a7, v29, ()), ()))
                              else none
                            else none
                          else
                            let v30 : Int := IntKind.wrap .i64 (a8 + 1)
                            some (.inl ((a1, a2, a3, a4, a5, a6, a7, v30, ()), ()))
                      else none
                  else none
                else none
          else none
        else none
      else none
    else none
  else some (.inr (.inr ((), ())))
def F3 (x0 : (List Int)) (x1 : (List Int)) : Option (Bool × (Unit) × (Unit)) :=
  Option.bind (F16 x0 x1) fun r1 =>
  bif r1.1 then
    some (true, (), ())
  else
    Option.bind (F17 x0) fun r2 =>
    Option.bind (F18 r2.1.1 r2.1.2.1 r2.1.2.2.1) fun r3 =>
    Option.bind (F19 r2.1.1 r2.1.2.1 r2.1.2.2.1) fun r4 =>
    Option.bind (F20 r2.1.1 r2.1.2.1 r2.1.2.2.1) fun r5 =>
    Option.bind (F21 r2.1.1 r2.1.2.1 r2.1.2.2.1) fun r6 =>
    let v7 : Bool := !(r3.1.2.1 == r4.1.2.1)
    bif v7 then
      some (false, (), ())
    else
      Option.bind (F22 r3.1.1 r4.1.1) fun r8 =>
      let v9 : Bool := !r8.1
      bif v9 then
        some (false, (), ())
      else
        let v10 : Bool := !(r5.1.2.1 == r6.1.2.1)
        bif v10 then
          some (false, (), ())
        else
          Option.bind (F22 r5.1.1 r6.1.1) fun r11 =>
          let v12 : Bool := !r11.1
          bif v12 then
            some (false, (), ())
          else
            bif r3.1.2.1 then
              let v13 : Bool := !r5.1.2.1
              bif v13 then
                some (false, (), ())
              else
                Option.bind (F23 x1) fun r14 =>
                Option.bind (F24 r14.1.1 r14.1.2.1) fun r15 =>
                Option.bind (F25 r14.1.1 r14.1.2.1) fun r16 =>
                let v17 : Bool := !(r15.1.2.1 == r16.1.2.1)
                bif v17 then
                  some (false, (), ())
                else
                  Option.bind (F26 r15.2.2.1 r16.1.1) fun r18 =>
                  let v19 : Bool := !r18.1
                  bif v19 then
                    some (false, (), ())
                  else
                    bif r15.1.2.1 then
                      let v20 : Bool := (r14.1.1 == 1 : Bool)
                      bif v20 then
                        let v21 : Int := ((r15.2.2.1.length : Nat) : Int)
                        Option.bind (Loop B3_17 ((x1, r2.1.1, r2.1.2.1, r2.1.2.2.1, r3.1.1, r4.1.2.1, r5.1.1, r15.2.2.1, v21, 0, ()), ())) fun r22 =>
                        match r22 with
                        | .inl r23 =>
                          let a25 := r23.1.1
                          some (a25, (), ())
                        | .inr r24 =>
                          let a26 := r24.1.1
                          let a27 := r24.1.2.1
                          let a28 := r24.1.2.2.1
                          let a29 := r24.1.2.2.2.1
                          let a30 := r24.1.2.2.2.2.1
                          let a31 := r24.1.2.2.2.2.2.1
                          let a32 := r24.1.2.2.2.2.2.2.1
                          Option.bind (F27 a26) fun r33 =>
                          Option.bind (F28 r33.1.1 r33.1.2.1 r33.1.2.2.1) fun r34 =>
                          Option.bind (F29 r33.1.1 r33.1.2.1 r33.1.2.2.1) fun r35 =>
                          let v36 : Bool := !(r34.1.2.1 == r35.1.2.1)
                          bif v36 then
                            some (false, (), ())
                          else
                            let v37 : Bool := (r34.1.1 != r35.1.1 : Bool)
                            bif v37 then
                              some (false, (), ())
                            else
                              bif r34.1.2.1 then
                                Option.bind (F30 r33.1.1 r33.1.2.1 r34.1.1 r33.1.2.2.1) fun r38 =>
                                let v39 : Bool := !r38.1
                                bif v39 then
                                  some (false, (), ())
                                else
                                  let v40 : Bool := !a31
                                  bif v40 then
                                    some (true, (), ())
                                  else
                                    let v41 : Int := ((a30.length : Nat) : Int)
                                    Option.bind (Loop B3_30 ((a27, a28, a29, a30, a32, a30, v41, 0, ()), ())) fun r42 =>
                                    match r42 with
                                    | .inl r43 =>
                                      let a45 := r43.1.1
                                      some (a45, (), ())
                                    | .inr r44 =>
                                      some (true, (), ())
                              else
                                let v46 : Bool := !a31
                                bif v46 then
                                  some (true, (), ())
                                else
                                  let v47 : Int := ((a30.length : Nat) : Int)
                                  Option.bind (Loop B3_30 ((a27, a28, a29, a30, a32, a30, v47, 0, ()), ())) fun r48 =>
                                  match r48 with
                                  | .inl r49 =>
                                    let a51 := r49.1.1
                                    some (a51, (), ())
                                  | .inr r50 =>
                                    some (true, (), ())
                      else
                        Option.bind (F27 x1) fun r52 =>
                        Option.bind (F28 r52.1.1 r52.1.2.1 r52.1.2.2.1) fun r53 =>
                        Option.bind (F29 r52.1.1 r52.1.2.1 r52.1.2.2.1) fun r54 =>
                        let v55 : Bool := !(r53.1.2.1 == r54.1.2.1)
                        bif v55 then
                          some (false, (), ())
                        else
                          let v56 : Bool := (r53.1.1 != r54.1.1 : Bool)
                          bif v56 then
                            some (false, (), ())
                          else
                            bif r53.1.2.1 then
                              Option.bind (F30 r52.1.1 r52.1.2.1 r53.1.1 r52.1.2.2.1) fun r57 =>
                              let v58 : Bool := !r57.1
                              bif v58 then
                                some (false, (), ())
                              else
                                let v59 : Bool := !r4.1.2.1
                                bif v59 then
                                  some (true, (), ())
                                else
                                  let v60 : Int := ((r3.1.1.length : Nat) : Int)
                                  Option.bind (Loop B3_30 ((r2.1.1, r2.1.2.1, r2.1.2.2.1, r3.1.1, r5.1.1, r3.1.1, v60, 0, ()), ())) fun r61 =>
                                  match r61 with
                                  | .inl r62 =>
                                    let a64 := r62.1.1
                                    some (a64, (), ())
                                  | .inr r63 =>
                                    some (true, (), ())
                            else
                              let v65 : Bool := !r4.1.2.1
                              bif v65 then
                                some (true, (), ())
                              else
                                let v66 : Int := ((r3.1.1.length : Nat) : Int)
                                Option.bind (Loop B3_30 ((r2.1.1, r2.1.2.1, r2.1.2.2.1, r3.1.1, r5.1.1, r3.1.1, v66, 0, ()), ())) fun r67 =>
                                match r67 with
                                | .inl r68 =>
                                  let a70 := r68.1.1
                                  some (a70, (), ())
                                | .inr r69 =>
                                  some (true, (), ())
                    else
                      Option.bind (F27 x1) fun r71 =>
                      Option.bind (F28 r71.1.1 r71.1.2.1 r71.1.2.2.1) fun r72 =>
                      Option.bind (F29 r71.1.1 r71.1.2.1 r71.1.2.2.1) fun r73 =>
                      let v74 : Bool := !(r72.1.2.1 == r73.1.2.1)
                      bif v74 then
                        some (false, (), ())
                      else
                        let v75 : Bool := (r72.1.1 != r73.1.1 : Bool)
                        bif v75 then
                          some (false, (), ())
                        else
                          bif r72.1.2.1 then
                            Option.bind (F30 r71.1.1 r71.1.2.1 r72.1.1 r71.1.2.2.1) fun r76 =>
                            let v77 : Bool := !r76.1
                            bif v77 then
                              some (false, (), ())
                            else
                              let v78 : Bool := !r4.1.2.1
                              bif v78 then
                                some (true, (), ())
                              else
                                let v79 : Int := ((r3.1.1.length : Nat) : Int)
                                Option.bind (Loop B3_30 ((r2.1.1, r2.1.2.1, r2.1.2.2.1, r3.1.1, r5.1.1, r3.1.1, v79, 0, ()), ())) fun r80 =>
                                match r80 with
                                | .inl r81 =>
                                  let a83 := r81.1.1
                                  some (a83, (), ())
                                | .inr r82 =>
                                  some (true, (), ())
                          else
                            let v84 : Bool := !r4.1.2.1
                            bif v84 then
                              some (true, (), ())
                            else
                              let v85 : Int := ((r3.1.1.length : Nat) : Int)
                              Option.bind (Loop B3_30 ((r2.1.1, r2.1.2.1, r2.1.2.2.1, r3.1.1, r5.1.1, r3.1.1, v85, 0, ()), ())) fun r86 =>
                              match r86 with
                              | .inl r87 =>
                                let a89 := r87.1.1
                                some (a89, (), ())
                              | .inr r88 =>
                                some (true, (), ())
            else
              Option.bind (F23 x1) fun r90 =>
              Option.bind (F24 r90.1.1 r90.1.2.1) fun r91 =>
              Option.bind (F25 r90.1.1 r90.1.2.1) fun r92 =>
              let v93 : Bool := !(r91.1.2.1 == r92.1.2.1)
              bif v93 then
                some (false, (), ())
              else
                Option.bind (F26 r91.2.2.1 r92.1.1) fun r94 =>
                let v95 : Bool := !r94.1
                bif v95 then
                  some (false, (), ())
                else
                  bif r91.1.2.1 then
                    let v96 : Bool := (r90.1.1 == 1 : Bool)
                    bif v96 then
                      let v97 : Int := ((r91.2.2.1.length : Nat) : Int)
                      Option.bind (Loop B3_17 ((x1, r2.1.1, r2.1.2.1, r2.1.2.2.1, r3.1.1, r4.1.2.1, r5.1.1, r91.2.2.1, v97, 0, ()), ())) fun r98 =>
                      match r98 with
                      | .inl r99 =>
                        let a101 := r99.1.1
                        some (a101, (), ())
                      | .inr r100 =>
                        let a102 := r100.1.1
                        let a103 := r100.1.2.1
                        let a104 := r100.1.2.2.1
                        let a105 := r100.1.2.2.2.1
                        let a106 := r100.1.2.2.2.2.1
                        let a107 := r100.1.2.2.2.2.2.1
                        let a108 := r100.1.2.2.2.2.2.2.1
                        Option.bind (F27 a102) fun r109 =>
                        Option.bind (F28 r109.1.1 r109.1.2.1 r109.1.2.2.1) fun r110 =>
                        Option.bind (F29 r109.1.1 r109.1.2.1 r109.1.2.2.1) fun r111 =>
                        let v112 : Bool := !(r110.1.2.1 == r111.1.2.1)
                        bif v112 then
                          some (false, (), ())
                        else
                          let v113 : Bool := (r110.1.1 != r111.1.1 : Bool)
                          bif v113 then
                            some (false, (), ())
                          else
                            bif r110.1.2.1 then
                              Option.bind (F30 r109.1.1 r109.1.2.1 r110.1.1 r109.1.2.2.1) fun r114 =>
                              let v115 : Bool := !r114.1
                              bif v115 then
                                some (false, (), ())
                              else
                                let v116 : Bool := !a107
                                bif v116 then
                                  some (true, (), ())
                                else
                                  let v117 : Int := ((a106.length : Nat) : Int)
                                  Option.bind (Loop B3_30 ((a103, a104, a105, a106, a108, a106, v117, 0, ()), ())) fun r118 =>
                                  match r118 with
                                  | .inl r119 =>
                                    let a121 := r119.1.1
                                    some (a121, (), ())
                                  | .inr r120 =>
                                    some (true, (), ())
                            else
                              let v122 : Bool := !a107
                              bif v122 then
                                some (true, (), ())
                              else
                                let v123 : Int := ((a106.length : Nat) : Int)
                                Option.bind (Loop B3_30 ((a103, a104, a105, a106, a108, a106, v123, 0, ()), ())) fun r124 =>
                                match r124 with
                                | .inl r125 =>
                                  let a127 := r125.1.1
                                  some (a127, (), ())
                                | .inr r126 =>
                                  some (true, (), ())
                    else
                      Option.bind (F27 x1) fun r128 =>
                      Option.bind (F28 r128.1.1 r128.1.2.1 r128.1.2.2.1) fun r129 =>
                      Option.bind (F29 r128.1.1 r128.1.2.1 r128.1.2.2.1) fun r130 =>
                      let v131 : Bool := !(r129.1.2.1 == r130.1.2.1)
                      bif v131 then
                        some (false, (), ())
                      else
                        let v132 : Bool := (r129.1.1 != r130.1.1 : Bool)
                        bif v132 then
                          some (false, (), ())
                        else
                          bif r129.1.2.1 then
                            Option.bind (F30 r128.1.1 r128.1.2.1 r129.1.1 r128.1.2.2.1) fun r133 =>
                            let v134 : Bool := !r133.1
                            bif v134 then
                              some (false, (), ())
                            else
                              let v135 : Bool := !r4.1.2.1
                              bif v135 then
                                some (true, (), ())
                              else
                                let v136 : Int := ((r3.1.1.length : Nat) : Int)
                                Option.bind (Loop B3_30 ((r2.1.1, r2.1.2.1, r2.1.2.2.1, r3.1.1, r5.1.1, r3.1.1, v136, 0, ()), ())) fun r137 =>
                                match r137 with
                                | .inl r138 =>
                                  let a140 := r138.1.1
                                  some (a140, (), ())
                                | .inr r139 =>
                                  some (true, (), ())
                          else
                            let v141 : Bool := !r4.1.2.1
                            bif v141 then
                              some (true, (), ())
                            else
                              let v142 : Int := ((r3.1.1.length : Nat) : Int)
                              Option.bind (Loop B3_30 ((r2.1.1, r2.1.2.1, r2.1.2.2.1, r3.1.1, r5.1.1, r3.1.1, v142, 0, ()), ())) fun r143 =>
                              match r143 with
                              | .inl r144 =>
                                let a146 := r144.1.1
                                some (a146, (), ())
                              | .inr r145 =>
                                some (true, (), ())
                  else
                    Option.bind (F27 x1) fun r147 =>
                    Option.bind (F28 r147.1.1 r147.1.2.1 r147.1.2.2.1) fun r148 =>
                    Option.bind (F29 r147.1.1 r147.1.2.1 r147.1.2.2.1) fun r149 =>
                    let v150 : Bool := !(r148.1.2.1 == r149.1.2.1)
                    bif v150 then
                      some (false, (), ())
                    else
                      let v151 : Bool := (r148.1.1 != r149.1.1 : Bool)
                      bif v151 then
                        some (false, (), ())
                      else
                        bif r148.1.2.1 then
                          Option.bind (F30 r147.1.1 r147.1.2.1 r148.1.1 r147.1.2.2.1) fun r152 =>
                          let v153 : Bool := !r152.1
                          bif v153 then
                            some (false, (), ())
                          else
                            let v154 : Bool := !r4.1.2.1
                            bif v154 then
                              some (true, (), ())
                            else
                              let v155 : Int := ((r3.1.1.length : Nat) : Int)
                              Option.bind (Loop B3_30 ((r2.1.1, r2.1.2.1, r2.1.2.2.1, r3.1.1, r5.1.1, r3.1.1, v155, 0, ()), ())) fun r156 =>
                              match r156 with
                              | .inl r157 =>
                                let a159 := r157.1.1
                                some (a159, (), ())
                              | .inr r158 =>
                                some (true, (), ())
                        else
                          let v160 : Bool := !r4.1.2.1
                          bif v160 then
                            some (true, (), ())
                          else
                            let v161 : Int := ((r3.1.1.length : Nat) : Int)
                            Option.bind (Loop B3_30 ((r2.1.1, r2.1.2.1, r2.1.2.2.1, r3.1.1, r5.1.1, r3.1.1, v161, 0, ()), ())) fun r162 =>
                            match r162 with
                            | .inl r163 =>
                              let a165 := r163.1.1
                              some (a165, (), ())
                            | .inr r164 =>
                              some (true, (), ())
@[reducible] def ff3 : FForm := ⟨[.a (.a (.dat (.sl 5 (.int .u8)))), .a (.a (.dat (.sl 5 (.int .u8))))], [], .a (.a (.a (.dat .bool))), []⟩
def G3 (x : ff3.X) : Option ff3.A := F3 x.1.1 x.1.2.1
noncomputable def cs3 : List (Nat × Spec) := [(16, (ff16.spec G16)), (17, (ff17.spec G17)), (18, (ff18.spec G18)), (19, (ff19.spec G19)), (20, (ff20.spec G20)), (21, (ff21.spec G21)), (22, (ff22.spec G22)), (23, (ff23.spec G23)), (24, (ff24.spec G24)), (25, (ff25.spec G25)), (26, (ff26.spec G26)), (27, (ff27.spec G27)), (28, (ff28.spec G28)), (29, (ff29.spec G29)), (30, (ff30.spec G30)), (31, (ff31.spec G31)), (32, (ff32.spec G32)), (33, (ff33.spec G33))]
@[reducible] def lB3_17 : Form := ⟨[(1, .a (.a (.a (.dat (.sl 5 (.int .u8)))))), (5, .a (.a (.a (.dat (.int .i64))))), (6, .a (.a (.a (.dat (.int .i64))))), (7, .a (.a (.a (.dat (.int .i64))))), (8, .a (.a (.a (.dat (.sl 32 (.sl 3 (.int .i64))))))), (11, .a (.a (.a (.dat .bool)))), (12, .a (.a (.a (.dat (.sl 32 (.sl 3 (.int .i64))))))), (131, .a (.a (.a (.dat (.sl 3 (.int .i64)))))), (132, .a (.a (.a (.dat (.int .i64))))), (133, .a (.a (.a (.dat (.int .i64)))))], []⟩
@[reducible] def oB3_17 : List (Nat × Form) := [(1, ⟨[(4, .a (.a (.a (.dat .bool))))], []⟩), (2, ⟨[(1, .a (.a (.a (.dat (.sl 5 (.int .u8)))))), (5, .a (.a (.a (.dat (.int .i64))))), (6, .a (.a (.a (.dat (.int .i64))))), (7, .a (.a (.a (.dat (.int .i64))))), (8, .a (.a (.a (.dat (.sl 32 (.sl 3 (.int .i64))))))), (11, .a (.a (.a (.dat .bool)))), (12, .a (.a (.a (.dat (.sl 32 (.sl 3 (.int .i64)))))))], []⟩)]
@[reducible] def lB3_30 : Form := ⟨[(5, .a (.a (.a (.dat (.int .i64))))), (6, .a (.a (.a (.dat (.int .i64))))), (7, .a (.a (.a (.dat (.int .i64))))), (8, .a (.a (.a (.dat (.sl 32 (.sl 3 (.int .i64))))))), (12, .a (.a (.a (.dat (.sl 32 (.sl 3 (.int .i64))))))), (181, .a (.a (.a (.dat (.sl 32 (.sl 3 (.int .i64))))))), (182, .a (.a (.a (.dat (.int .i64))))), (183, .a (.a (.a (.dat (.int .i64)))))], []⟩
@[reducible] def oB3_30 : List (Nat × Form) := [(1, ⟨[(4, .a (.a (.a (.dat .bool))))], []⟩), (4, ⟨[], []⟩)]
noncomputable def E3 : Env := { ty := ty, ntmps := 245, nio := 2, objs := objOf [], loud := loudOf [], calls := specOf (cs3), muts := mutOf [], loops := loopOf [(17, loopSpec 2 lB3_17 oB3_17 B3_17), (30, loopSpec 2 lB3_30 oB3_30 B3_30)] }
theorem hc3 : ∀ f, CallOK Try.prog f ((E3).calls f) := specOf_ok (by
  intro p hp
  simp only [cs3, List.mem_cons, List.not_mem_nil, or_false] at hp
  rcases hp with rfl | rfl | rfl | rfl | rfl | rfl | rfl | rfl | rfl | rfl | rfl | rfl | rfl | rfl | rfl | rfl | rfl | rfl
  · exact S16
  · exact S17
  · exact S18
  · exact S19
  · exact S20
  · exact S21
  · exact S22
  · exact S23
  · exact S24
  · exact S25
  · exact S26
  · exact S27
  · exact S28
  · exact S29
  · exact S30
  · exact S31
  · exact S32
  · exact S33)
noncomputable def c3 : Code := bodyOf Try.f3
noncomputable def c3_0 : Code := (loopsOf c3).getD 0 .skip
theorem L3_0 : LoopOK Try.prog (E3) c3_0 := loop_ok ty_ok (hc3) mixed (F := lB3_17) (outs := oB3_17) (B := B3_17) (by kernel_rfl) (by kernel_rfl) (by kernel_rfl) (loops_nth 0 (by kernel_rfl) (fun i hi => absurd hi (Nat.not_lt_zero i))) (fun x => by kernel_rfl)
noncomputable def c3_1 : Code := (loopsOf c3).getD 1 .skip
theorem L3_1 : LoopOK Try.prog (E3) c3_1 := loop_ok ty_ok (hc3) mixed (F := lB3_30) (outs := oB3_30) (B := B3_30) (by kernel_rfl) (by kernel_rfl) (by kernel_rfl) (loops_nth 0 (by kernel_rfl) (fun i hi => absurd hi (Nat.not_lt_zero i))) (fun x => by kernel_rfl)
theorem S3 : CallOK Try.prog 3 (ff3.spec G3) := fn_ok (E := E3) (c := c3) (F := ff3) (G := G3) ty_ok (hc3) mixed Try.func3 (by kernel_rfl) (by kernel_rfl) (by kernel_rfl) (by kernel_rfl) (by kernel_rfl) (by kernel_rfl) (loops_nth 2 (by kernel_rfl) (fun i hi => match i, hi with | 0, _ => L3_0 | 1, _ => L3_1)) (fun x => by kernel_rfl)
theorem C3 : CallsOK Try.prog 3 (ff3.spec G3) := fn_calls (E := E3) (c := c3) (F := ff3) (G := G3) ty_ok (hc3) mixed Try.func3 (by kernel_rfl) (by kernel_rfl) (by kernel_rfl) (by kernel_rfl) (by kernel_rfl) (by kernel_rfl) (loops_nth 2 (by kernel_rfl) (fun i hi => match i, hi with | 0, _ => L3_0 | 1, _ => L3_1)) (fun x => by kernel_rfl)
end
end Go.Proofs.Ytckieogkaodkdaa.V
