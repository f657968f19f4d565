/- The functions of the seat: annotated code, shallow functions, and that each keeps its contract. Printed by pr.py. -/
import Derived.Test.YtpkpihcdbgckkaaSTab
namespace Go.Proofs.Ytpkpihcdbgckkaa.S
open Go Go.Proofs Go.Proofs.Bw
set_option maxRecDepth 100000
set_option linter.unusedVariables false
abbrev TboundsError : Ty := .pair (.int .i64) (.pair (.int .i64) (.pair .bool (.pair (.int .u8) .unit)))
abbrev DboundsError : Type := Int × Int × Bool × Int × Unit
abbrev TerrorAddressString : Ty := .pair .str (.pair (.int .u64) .unit)
abbrev DerrorAddressString : Type := (List Int) × Int × Unit
abbrev TPacket : Ty := .pair (.int .u8) (.pair (.int .u8) (.pair (.int .u8) (.pair (.int .u32) (.pair (.int .u32) (.pair .str .unit)))))
abbrev DPacket : Type := Int × Int × Int × Int × Int × (List Int) × Unit
abbrev TDeed : Ty := .pair (.int .i64) (.pair .str (.pair (.int .u64) (.pair TPacket (.pair (.int .u8) (.pair .bool .unit)))))
abbrev DDeed : Type := Int × (List Int) × Int × DPacket × Int × Bool × Unit
abbrev Tpast : Ty := .pair (.int .u8) (.pair (.int .u32) (.pair (.int .u32) (.pair .str .unit)))
abbrev Dpast : Type := Int × Int × Int × (List Int) × Unit
abbrev TCallee : Ty := .pair (.arr 3 Tpast) .unit
abbrev DCallee : Type := (List Dpast) × Unit
abbrev TCaller : Ty := .pair TPacket (.pair .bool (.pair (.int .i64) (.pair (.int .u64) .unit)))
abbrev DCaller : Type := DPacket × Bool × Int × Int × Unit
abbrev TCaller' : Ty := .pair (.int .u8) (.pair (.int .u32) (.pair (.int .u32) (.pair .bool (.pair .str (.pair (.int .i64) (.pair (.int .u64) .unit))))))
abbrev DCaller' : Type := Int × Int × Int × Bool × (List Int) × Int × Int × Unit
abbrev Ttaken : Ty := .pair (.int .i64) (.pair (.int .u32) (.pair (.int .u32) (.pair .str .unit)))
abbrev Dtaken : Type := Int × Int × Int × (List Int) × Unit
abbrev TCallee' : Ty := .pair (.arr 4 Ttaken) .unit
abbrev DCallee' : Type := (List Dtaken) × Unit
abbrev TReader : Ty := .pair (.slB .U false (.int .u8)) (.pair .bool .unit)
abbrev DReader : Type := (List Int) × Bool × Unit
abbrev TReaderX : Ty := .pair (.slX .U (.int .u8)) (.pair .bool .unit)
/-! backwater/rpc.NewCaller -/
abbrev rpc_NewCaller.ps : List (Ty × Bool) := [(.int .u8, false), (.int .u32, false)]
abbrev rpc_NewCaller.r : Ty := .opt TCaller
abbrev rpc_NewCaller.rs : List RV := [.t 4]
abbrev rpc_NewCaller.R : Type := (rtOf rpc_NewCaller.ps rpc_NewCaller.r).den
noncomputable def rpc_NewCaller.d (n : Nat) : XC :=
  (.seq (.reg (.op (.mv 4 (.c ⟨.nil 1, ()⟩)) none <| .nil)) <|
  (.seq (.seq (.reg (.op (.mv 5 (.t 0)) none <| .op (.bin 6 .eql (.t 5) (.c ⟨.int .u8, ((0 : Int) : Int)⟩)) none <| .op (.mv 7 (.t 6)) none <| .grp 7 false (.op (.mv 8 (.t 0)) (some ([0, 7, 8], [8])) <| .op (.bin 9 .gtr (.t 8) (.c ⟨.int .u8, ((3 : Int) : Int)⟩)) (some ([7, 8, 9], [9])) <| .nil) 9 10 [8, 9] <| .nil)) <|
  (.cond (.t 10)
  (.seq (.reg (.op (.mv 4 (.c ⟨.nil 1, ()⟩)) none <| .nil)) <|
  .ret)
  .skip)) <|
  (.seq (.reg (.op (.mv 11 (.t 0)) none <| .op (.mv 12 (.t 1)) none <| .op (.build 13 ⟨TPacket, (((0 : Int), (0 : Int), (0 : Int), (0 : Int), (0 : Int), ([] : List Int), ()) : DPacket)⟩ [(0, (.c ⟨.int .u8, ((1 : Int) : Int)⟩), false), (1, (.t 11), false), (3, (.t 12), false)]) none <| .op (.build 14 ⟨TCaller, ((((0 : Int), (0 : Int), (0 : Int), (0 : Int), (0 : Int), ([] : List Int), ()), false, (0 : Int), (0 : Int), ()) : DCaller)⟩ [(0, (.t 13), false)]) none <| .op (.boxv 15 (.t 14)) none <| .op (.take 4 15) none <| .nil)) <|
  .ret)))
noncomputable abbrev rpc_NewCaller.c (n : Nat) : XC := rpc_NewCaller.d n
noncomputable def rpc_NewCaller.f (n : Nat) (a0 : Int) (a1 : Int) : Option (Option DCaller) :=
  (bif (decide (a0 = (0 : Int))) then some true else (some (decide ((3 : Int) < a0)))).bind fun g1 =>
  bif g1 then (some none)
  else (some (some (((1 : Int), a0, (0 : Int), a1, (0 : Int), ([] : List Int), ()), false, (0 : Int), (0 : Int), ())))
theorem rpc_NewCaller.ok (n : Nat) (a0 : Int) (a1 : Int) : evFn (rpc_NewCaller.c n) rpc_NewCaller.rs rpc_NewCaller.ps rpc_NewCaller.r (a0, a1, ()) = rpc_NewCaller.f n a0 a1 := by kernel_rfl
noncomputable def rpc_NewCaller.sp (n : Nat) : FSpec := { f := 14, ps := rpc_NewCaller.ps, r := rpc_NewCaller.r, run := fun x => rpc_NewCaller.f n x.1 x.2.1 }
theorem rpc_NewCaller.calls (n : Nat) : (rpc_NewCaller.c n).calls = [] := by kernel_rfl
theorem rpc_NewCaller.fits (n : Nat) : fnB tab hd Try.f14 (rpc_NewCaller.c n) rpc_NewCaller.rs (rpc_NewCaller.sp n).ps (rpc_NewCaller.sp n).r = true := by kernel_rfl
theorem rpc_NewCaller.sound (n : Nat) : Sound Try.prog (rpc_NewCaller.sp n) := by
  refine fnB_sound tabOk eqFacts mixed (fn := Try.f14) (c := rpc_NewCaller.c n) (rs := rpc_NewCaller.rs) (by kernel_rfl) ?_ (rpc_NewCaller.fits n) ?_
  · rw [rpc_NewCaller.calls]
    intro s hs; cases hs
  · rintro ⟨a0, a1, ⟨⟩⟩ y h
    exact (rpc_NewCaller.ok n a0 a1).trans h
theorem rpc_NewCaller.meets (n : Nat) : Meets Try.prog (rpc_NewCaller.sp n) := (rpc_NewCaller.sound n).meets
/-! backwater/rpc.NewCallee -/
abbrev rpc_NewCallee.ps : List (Ty × Bool) := []
abbrev rpc_NewCallee.r : Ty := .box TCallee
abbrev rpc_NewCallee.rs : List RV := [.t 0]
abbrev rpc_NewCallee.R : Type := (rtOf rpc_NewCallee.ps rpc_NewCallee.r).den
noncomputable def rpc_NewCallee.d (n : Nat) : XC :=
  (.seq (.reg (.op (.mv 0 (.c ⟨.nil 1, ()⟩)) none <| .nil)) <|
  (.seq (.reg (.op (.alloc 1 ⟨TCallee, (((List.replicate 3 ((0 : Int), (0 : Int), (0 : Int), ([] : List Int), ())), ()) : DCallee)⟩) none <| .op (.take 0 1) none <| .nil)) <|
  .ret))
noncomputable abbrev rpc_NewCallee.c (n : Nat) : XC := rpc_NewCallee.d n
noncomputable def rpc_NewCallee.f (n : Nat)  : Option DCallee :=
  some ((List.replicate 3 ((0 : Int), (0 : Int), (0 : Int), ([] : List Int), ())), ())
theorem rpc_NewCallee.ok (n : Nat)  : evFn (rpc_NewCallee.c n) rpc_NewCallee.rs rpc_NewCallee.ps rpc_NewCallee.r () = rpc_NewCallee.f n  := by kernel_rfl
noncomputable def rpc_NewCallee.sp (n : Nat) : FSpec := { f := 11, ps := rpc_NewCallee.ps, r := rpc_NewCallee.r, run := fun x => rpc_NewCallee.f n  }
theorem rpc_NewCallee.calls (n : Nat) : (rpc_NewCallee.c n).calls = [] := by kernel_rfl
theorem rpc_NewCallee.fits (n : Nat) : fnB tab hd Try.f11 (rpc_NewCallee.c n) rpc_NewCallee.rs (rpc_NewCallee.sp n).ps (rpc_NewCallee.sp n).r = true := by kernel_rfl
theorem rpc_NewCallee.sound (n : Nat) : Sound Try.prog (rpc_NewCallee.sp n) := by
  refine fnB_sound tabOk eqFacts mixed (fn := Try.f11) (c := rpc_NewCallee.c n) (rs := rpc_NewCallee.rs) (by kernel_rfl) ?_ (rpc_NewCallee.fits n) ?_
  · rw [rpc_NewCallee.calls]
    intro s hs; cases hs
  · rintro ⟨⟩ y h
    exact (rpc_NewCallee.ok n ).trans h
theorem rpc_NewCallee.meets (n : Nat) : Meets Try.prog (rpc_NewCallee.sp n) := (rpc_NewCallee.sound n).meets
/-! (*backwater/rpc.Caller).Call -/
abbrev rpc_Caller_Call.ps : List (Ty × Bool) := [(.opt TCaller, true), (.str, false)]
abbrev rpc_Caller_Call.r : Ty := .int .i64
abbrev rpc_Caller_Call.rs : List RV := [.t 4]
abbrev rpc_Caller_Call.R : Type := (rtOf rpc_Caller_Call.ps rpc_Caller_Call.r).den
noncomputable def rpc_Caller_Call.d1 (n : Nat) : XC :=
  (.seq (.reg (.op (.bor 24 0) none <| .op (.nilchk 25 (.t 24)) none <| .op (.fa 26 25 0 0) none <| .op (.fa 27 26 4 4) none <| .op (.ld 28 27 1 false) none <| .op (.bin 29 .add (.t 28) (.c ⟨.int .u32, ((1 : Int) : Int)⟩)) none <| .op (.nilchk 30 (.t 24)) none <| .op (.fa 31 30 0 0) none <| .op (.fa 32 31 4 4) none <| .op (.st 32 (.t 29) 1) none <| .nil)) <|
  (.seq (.reg (.op (.bor 33 0) none <| .op (.mv 34 (.t 1)) none <| .op (.nilchk 35 (.t 33)) none <| .op (.fa 36 35 0 0) none <| .op (.fa 37 36 5 5) none <| .op (.st 37 (.t 34) 1) none <| .nil)) <|
  (.seq (.pre [.keep [0]] (.reg (.op (.bor 38 0) none <| .op (.bor 39 0) none <| .op (.bor 40 0) none <| .op (.nilchk 41 (.t 38)) none <| .op (.fa 42 41 1 6) none <| .op (.st 42 (.c ⟨.bool, (true : Bool)⟩) 1) none <| .op (.nilchk 43 (.t 39)) none <| .op (.fa 44 43 2 7) none <| .op (.st 44 (.c ⟨.int .i64, ((0 : Int) : Int)⟩) 1) none <| .op (.nilchk 45 (.t 40)) none <| .op (.fa 46 45 3 8) none <| .op (.st 46 (.c ⟨.int .u64, ((0 : Int) : Int)⟩) 1) none <| .nil))) <|
  (.seq (.reg (.op (.mv 4 (.c ⟨.int .i64, ((0 : Int) : Int)⟩)) none <| .nil)) <|
  .ret))))
noncomputable abbrev rpc_Caller_Call.c1 (n : Nat) : XC := rpc_Caller_Call.d1 n
noncomputable def rpc_Caller_Call.j1 (n : Nat) (x0 : DCaller) (x1 : List Int) : Option ((Option DCaller) × Int) :=
  some ((some ((x0.1.1, x0.1.2.1, x0.1.2.2.1, x0.1.2.2.2.1, (IntKind.u32.wrap (x0.1.2.2.2.2.1 + (1 : Int))), x1, x0.1.2.2.2.2.2.2), true, (0 : Int), (0 : Int), x0.2.2.2.2)), (0 : Int))
theorem rpc_Caller_Call.s1 (n : Nat) (x0 : DCaller) (x1 : List Int) : ev (rpc_Caller_Call.c1 n) [(0, some ⟨.box TCaller, x0⟩), (1, some ⟨.str, x1⟩)] (⟨retK rpc_Caller_Call.rs rpc_Caller_Call.ps rpc_Caller_Call.r, []⟩ : Ks rpc_Caller_Call.R) (retK rpc_Caller_Call.rs rpc_Caller_Call.ps rpc_Caller_Call.r) = rpc_Caller_Call.j1 n x0 x1 := by kernel_rfl
noncomputable def rpc_Caller_Call.H1 (n : Nat) (X : XC) : St → Option rpc_Caller_Call.R := fun st => ghK [.keep [0, 1]] st fun st => ev X st (⟨retK rpc_Caller_Call.rs rpc_Caller_Call.ps rpc_Caller_Call.r, []⟩ : Ks rpc_Caller_Call.R) (retK rpc_Caller_Call.rs rpc_Caller_Call.ps rpc_Caller_Call.r)
noncomputable abbrev rpc_Caller_Call.K1 (n : Nat) : St → Option rpc_Caller_Call.R := rpc_Caller_Call.H1 n (rpc_Caller_Call.c1 n)
noncomputable def rpc_Caller_Call.d (n : Nat) (X1 : XC) : XC :=
  (.seq (.reg (.op (.mv 4 (.c ⟨.int .i64, ((0 : Int) : Int)⟩)) none <| .nil)) <|
  (.seq (.aft (.block 0 (.seq (.pre [.split 0 []] (.reg (.op (.bor 6 0) none <| .op (.eqnil 7 (.t 6) false false) none <| .op (.mv 5 (.t 7)) none <| .nil))) <|
  (.cond (.t 5)
  (.seq (.reg (.op (.mv 4 (.c ⟨.int .i64, ((1 : Int) : Int)⟩)) none <| .nil)) <|
  .ret)
  (.seq (.reg (.op (.bor 9 0) none <| .op (.nilchk 10 (.t 9)) none <| .op (.fa 11 10 1 6) none <| .op (.ld 12 11 1 false) none <| .op (.mv 8 (.t 12)) none <| .nil)) <|
  (.cond (.t 8)
  (.seq (.reg (.op (.mv 4 (.c ⟨.int .i64, ((13 : Int) : Int)⟩)) none <| .nil)) <|
  .ret)
  (.seq (.reg (.op (.mv 14 (.t 1)) none <| .op (.len 15 (.t 14) true) none <| .op (.bin 16 .gtr (.t 15) (.c ⟨.int .i64, ((16384 : Int) : Int)⟩)) none <| .op (.mv 13 (.t 16)) none <| .nil)) <|
  (.cond (.t 13)
  (.seq (.pre [.keep [0]] (.reg (.op (.mv 4 (.c ⟨.int .i64, ((3 : Int) : Int)⟩)) none <| .nil))) <|
  .ret)
  (.seq (.pre [.keep [0, 1]] (.reg (.op (.bor 18 0) none <| .op (.nilchk 19 (.t 18)) none <| .op (.fa 20 19 0 0) none <| .op (.fa 21 20 4 4) none <| .op (.ld 22 21 1 false) none <| .op (.bin 23 .eql (.t 22) (.c ⟨.int .u32, ((4294967295 : Int) : Int)⟩)) none <| .op (.mv 17 (.t 23)) none <| .nil))) <|
  (.cond (.t 17)
  (.seq (.reg (.op (.mv 4 (.c ⟨.int .i64, ((2 : Int) : Int)⟩)) none <| .nil)) <|
  .ret)
  .skip))))))))) [.keep [0, 1]]) X1))
noncomputable abbrev rpc_Caller_Call.c (n : Nat) : XC := rpc_Caller_Call.d n (rpc_Caller_Call.c1 n)
noncomputable def rpc_Caller_Call.f (n : Nat) (a0 : Option DCaller) (a1 : List Int) : Option ((Option DCaller) × Int) :=
  optM a0 (some (none, (1 : Int))) fun p1 => bif p1.2.1 then (some ((some ((p1.1.1, p1.1.2.1, p1.1.2.2.1, p1.1.2.2.2.1, p1.1.2.2.2.2.1, p1.1.2.2.2.2.2.1, p1.1.2.2.2.2.2.2), p1.2.1, p1.2.2.1, p1.2.2.2.1, p1.2.2.2.2)), (13 : Int)))
  else (bif (decide ((16384 : Int) < (a1.length : Int))) then (some ((some ((p1.1.1, p1.1.2.1, p1.1.2.2.1, p1.1.2.2.2.1, p1.1.2.2.2.2.1, p1.1.2.2.2.2.2.1, p1.1.2.2.2.2.2.2), p1.2.1, p1.2.2.1, p1.2.2.2.1, p1.2.2.2.2)), (3 : Int)))
  else (bif (decide (p1.1.2.2.2.2.1 = (4294967295 : Int))) then (some ((some ((p1.1.1, p1.1.2.1, p1.1.2.2.1, p1.1.2.2.2.1, p1.1.2.2.2.2.1, p1.1.2.2.2.2.2.1, p1.1.2.2.2.2.2.2), p1.2.1, p1.2.2.1, p1.2.2.2.1, p1.2.2.2.2)), (2 : Int)))
  else (rpc_Caller_Call.j1 n ((p1.1.1, p1.1.2.1, p1.1.2.2.1, p1.1.2.2.2.1, p1.1.2.2.2.2.1, p1.1.2.2.2.2.2.1, p1.1.2.2.2.2.2.2), p1.2.1, p1.2.2.1, p1.2.2.2.1, p1.2.2.2.2) a1)))
theorem rpc_Caller_Call.w (n : Nat) (a0 : Option DCaller) (a1 : List Int) (X1 : XC) : evFn (rpc_Caller_Call.d n X1) rpc_Caller_Call.rs rpc_Caller_Call.ps rpc_Caller_Call.r (a0, a1, ()) =
  (optM a0 (some (none, (1 : Int))) fun p1 => bif p1.2.1 then (some ((some ((p1.1.1, p1.1.2.1, p1.1.2.2.1, p1.1.2.2.2.1, p1.1.2.2.2.2.1, p1.1.2.2.2.2.2.1, p1.1.2.2.2.2.2.2), p1.2.1, p1.2.2.1, p1.2.2.2.1, p1.2.2.2.2)), (13 : Int)))
  else (bif (decide ((16384 : Int) < (a1.length : Int))) then (some ((some ((p1.1.1, p1.1.2.1, p1.1.2.2.1, p1.1.2.2.2.1, p1.1.2.2.2.2.1, p1.1.2.2.2.2.2.1, p1.1.2.2.2.2.2.2), p1.2.1, p1.2.2.1, p1.2.2.2.1, p1.2.2.2.2)), (3 : Int)))
  else (bif (decide (p1.1.2.2.2.2.1 = (4294967295 : Int))) then (some ((some ((p1.1.1, p1.1.2.1, p1.1.2.2.1, p1.1.2.2.2.1, p1.1.2.2.2.2.1, p1.1.2.2.2.2.2.1, p1.1.2.2.2.2.2.2), p1.2.1, p1.2.2.1, p1.2.2.2.1, p1.2.2.2.2)), (2 : Int)))
  else (ev X1 [(0, some ⟨.box TCaller, (((p1.1.1, p1.1.2.1, p1.1.2.2.1, p1.1.2.2.2.1, p1.1.2.2.2.2.1, p1.1.2.2.2.2.2.1, p1.1.2.2.2.2.2.2), p1.2.1, p1.2.2.1, p1.2.2.2.1, p1.2.2.2.2) : DCaller)⟩), (1, some ⟨.str, a1⟩)] (⟨retK rpc_Caller_Call.rs rpc_Caller_Call.ps rpc_Caller_Call.r, []⟩ : Ks rpc_Caller_Call.R) (retK rpc_Caller_Call.rs rpc_Caller_Call.ps rpc_Caller_Call.r)))) : Option rpc_Caller_Call.R) := by kernel_rfl
theorem rpc_Caller_Call.ok (n : Nat) (a0 : Option DCaller) (a1 : List Int) : evFn (rpc_Caller_Call.c n) rpc_Caller_Call.rs rpc_Caller_Call.ps rpc_Caller_Call.r (a0, a1, ()) = rpc_Caller_Call.f n a0 a1 := (rpc_Caller_Call.w n a0 a1 (rpc_Caller_Call.c1 n)).trans (by simp only [rpc_Caller_Call.f, rpc_Caller_Call.s1 n] <;> kernel_rfl)
noncomputable def rpc_Caller_Call.sp (n : Nat) : FSpec := { f := 15, ps := rpc_Caller_Call.ps, r := rpc_Caller_Call.r, run := fun x => rpc_Caller_Call.f n x.1 x.2.1 }
theorem rpc_Caller_Call.calls (n : Nat) : (rpc_Caller_Call.c n).calls = [] := by kernel_rfl
theorem rpc_Caller_Call.fits (n : Nat) : fnB tab hd Try.f15 (rpc_Caller_Call.c n) rpc_Caller_Call.rs (rpc_Caller_Call.sp n).ps (rpc_Caller_Call.sp n).r = true := by kernel_rfl
theorem rpc_Caller_Call.sound (n : Nat) : Sound Try.prog (rpc_Caller_Call.sp n) := by
  refine fnB_sound tabOk eqFacts mixed (fn := Try.f15) (c := rpc_Caller_Call.c n) (rs := rpc_Caller_Call.rs) (by kernel_rfl) ?_ (rpc_Caller_Call.fits n) ?_
  · rw [rpc_Caller_Call.calls]
    intro s hs; cases hs
  · rintro ⟨a0, a1, ⟨⟩⟩ y h
    exact (rpc_Caller_Call.ok n a0 a1).trans h
theorem rpc_Caller_Call.meets (n : Nat) : Meets Try.prog (rpc_Caller_Call.sp n) := (rpc_Caller_Call.sound n).meets
/-! (*backwater/rpc.Caller).Tick -/
abbrev rpc_Caller_Tick.ps : List (Ty × Bool) := [(.opt TCaller, true), (.int .u64, false)]
abbrev rpc_Caller_Tick.r : Ty := .tup (.pair TPacket (.pair .bool .unit))
abbrev rpc_Caller_Tick.rs : List RV := [.c 4 6 true, .t 5]
abbrev rpc_Caller_Tick.R : Type := (rtOf rpc_Caller_Tick.ps rpc_Caller_Tick.r).den
noncomputable def rpc_Caller_Tick.d1 (n : Nat) : XC :=
  (.seq .skip <|
  (.seq (.reg (.op (.ld 52 4 6 true) none <| .op (.st 4 (.t 52) 6) none <| .op (.mv 5 (.c ⟨.bool, (false : Bool)⟩)) none <| .nil)) <|
  .ret))
noncomputable abbrev rpc_Caller_Tick.c1 (n : Nat) : XC := rpc_Caller_Tick.d1 n
noncomputable def rpc_Caller_Tick.j1 (n : Nat) (x0 : Option DCaller) (x4 : DPacket) : Option ((Option DCaller) × (DPacket × Bool × Unit)) :=
  some (x0, (x4.1, x4.2.1, x4.2.2.1, x4.2.2.2.1, x4.2.2.2.2.1, x4.2.2.2.2.2.1, x4.2.2.2.2.2.2), false, ())
theorem rpc_Caller_Tick.s1 (n : Nat) (x0 : Option DCaller) (x4 : DPacket) : ev (rpc_Caller_Tick.c1 n) [(0, some ⟨.opt TCaller, x0⟩), (4, some ⟨.box TPacket, x4⟩)] (⟨retK rpc_Caller_Tick.rs rpc_Caller_Tick.ps rpc_Caller_Tick.r, [(1000000, (fun _ => none))]⟩ : Ks rpc_Caller_Tick.R) (retK rpc_Caller_Tick.rs rpc_Caller_Tick.ps rpc_Caller_Tick.r) = rpc_Caller_Tick.j1 n x0 x4 := by kernel_rfl
noncomputable def rpc_Caller_Tick.H1 (n : Nat) (X : XC) : St → Option rpc_Caller_Tick.R := fun st => ghK [.coe 0 (.opt TCaller), .keep [0, 4]] st fun st => ev X st (⟨retK rpc_Caller_Tick.rs rpc_Caller_Tick.ps rpc_Caller_Tick.r, [(1000000, (fun _ => none))]⟩ : Ks rpc_Caller_Tick.R) (retK rpc_Caller_Tick.rs rpc_Caller_Tick.ps rpc_Caller_Tick.r)
noncomputable abbrev rpc_Caller_Tick.K1 (n : Nat) : St → Option rpc_Caller_Tick.R := rpc_Caller_Tick.H1 n (rpc_Caller_Tick.c1 n)
noncomputable def rpc_Caller_Tick.d (n : Nat) (X1 : XC) : XC :=
  (.seq (.reg (.op (.alloc 4 ⟨TPacket, (((0 : Int), (0 : Int), (0 : Int), (0 : Int), (0 : Int), ([] : List Int), ()) : DPacket)⟩) none <| .op (.mv 5 (.c ⟨.bool, (false : Bool)⟩)) none <| .nil)) <|
  (.scope 0 (.seq (.seq (.pre [.split 0 []] (.reg (.op (.bor 6 0) none <| .op (.eqnil 7 (.t 6) false false) none <| .op (.mv 8 (.t 7)) none <| .grp 8 false (.op (.bor 9 0) (some ([0, 8, 9], [9])) <| .op (.nilchk 10 (.t 9)) (some ([0, 8, 9, 10], [10])) <| .op (.fa 11 10 1 6) (some ([0, 8, 10, 11], [11])) <| .op (.ld 12 11 1 false) (some ([0, 8, 11, 12], [12])) <| .op (.un 13 .not (.t 12)) (some ([8, 12, 13], [13])) <| .nil) 13 14 [9, 10, 11, 12, 13] <| .nil))) <|
  (.cond (.t 14)
  (.pre [.keep [0, 4]] (.goto 0))
  .skip)) <|
  (.seq (.seq (.reg (.op (.bor 15 0) none <| .op (.nilchk 16 (.t 15)) none <| .op (.fa 17 16 2 7) none <| .op (.ld 18 17 1 false) none <| .op (.bin 19 .gtr (.t 18) (.c ⟨.int .i64, ((0 : Int) : Int)⟩)) none <| .op (.mv 20 (.t 19)) none <| .grp 20 true (.op (.mv 21 (.t 1)) (some ([1, 20, 21], [21])) <| .op (.bor 22 0) (some ([0, 20, 22], [22])) <| .op (.nilchk 23 (.t 22)) (some ([0, 20, 22, 23], [23])) <| .op (.fa 24 23 3 8) (some ([0, 20, 23, 24], [24])) <| .op (.ld 25 24 1 false) (some ([0, 20, 24, 25], [25])) <| .op (.bin 26 .lss (.t 21) (.t 25)) (some ([20, 21, 25, 26], [26])) <| .op (.mv 27 (.t 26)) (some ([20, 26, 27], [27])) <| .grp 27 false (.op (.mv 28 (.t 1)) (some ([1, 27, 28], [28])) <| .op (.bor 29 0) (some ([0, 27, 29], [29])) <| .op (.nilchk 30 (.t 29)) (some ([0, 27, 29, 30], [30])) <| .op (.fa 31 30 3 8) (some ([0, 27, 30, 31], [31])) <| .op (.ld 32 31 1 false) (some ([0, 27, 31, 32], [32])) <| .op (.bin 33 .sub (.t 28) (.t 32)) (some ([27, 28, 32, 33], [33])) <| .op (.bin 34 .lss (.t 33) (.c ⟨.int .u64, ((4 : Int) : Int)⟩)) (some ([27, 33, 34], [34])) <| .nil) 34 35 [28, 29, 30, 31, 32, 33, 34] <| .nil) 35 36 [21, 22, 23, 24, 25, 26, 27, 28, 29, 30, 31, 32, 33, 34, 35] <| .nil)) <|
  (.cond (.t 36)
  (.pre [.keep [0, 4]] (.goto 0))
  .skip)) <|
  (.seq (.pre [.keep [0, 1, 4]] (.reg (.op (.bor 37 0) none <| .op (.nilchk 38 (.t 37)) none <| .op (.fa 39 38 2 7) none <| .op (.ld 40 39 1 false) none <| .op (.bin 41 .add (.t 40) (.c ⟨.int .i64, ((1 : Int) : Int)⟩)) none <| .op (.nilchk 42 (.t 37)) none <| .op (.fa 43 42 2 7) none <| .op (.st 43 (.t 41) 1) none <| .nil))) <|
  (.seq (.reg (.op (.bor 44 0) none <| .op (.mv 45 (.t 1)) none <| .op (.nilchk 46 (.t 44)) none <| .op (.fa 47 46 3 8) none <| .op (.st 47 (.t 45) 1) none <| .nil)) <|
  (.seq (.aft (.seq (.pre [.keep [0, 4]] (.reg (.op (.bor 48 0) none <| .op (.nilchk 49 (.t 48)) none <| .op (.fa 50 49 0 0) none <| .op (.ld 51 50 6 true) none <| .op (.st 4 (.t 51) 6) none <| .op (.mv 5 (.c ⟨.bool, (true : Bool)⟩)) none <| .nil))) <|
  .ret) [.coe 0 (.opt TCaller), .keep [0, 4]]) (.drop X1)))))) (.pre [.coe 0 (.opt TCaller), .keep [0, 4]] X1)))
noncomputable abbrev rpc_Caller_Tick.c (n : Nat) : XC := rpc_Caller_Tick.d n (rpc_Caller_Tick.c1 n)
noncomputable def rpc_Caller_Tick.f (n : Nat) (a0 : Option DCaller) (a1 : Int) : Option ((Option DCaller) × (DPacket × Bool × Unit)) :=
  optM a0 (rpc_Caller_Tick.j1 n none ((0 : Int), (0 : Int), (0 : Int), (0 : Int), (0 : Int), ([] : List Int), ())) fun p1 => (some (!p1.2.1)).bind fun g2 =>
  bif g2 then (rpc_Caller_Tick.j1 n (some ((p1.1.1, p1.1.2.1, p1.1.2.2.1, p1.1.2.2.2.1, p1.1.2.2.2.2.1, p1.1.2.2.2.2.2.1, p1.1.2.2.2.2.2.2), p1.2.1, p1.2.2.1, p1.2.2.2.1, p1.2.2.2.2)) ((0 : Int), (0 : Int), (0 : Int), (0 : Int), (0 : Int), ([] : List Int), ()))
  else ((bif (decide ((0 : Int) < p1.2.2.1)) then ((bif (decide (a1 < p1.2.2.2.1)) then some true else (some (decide ((IntKind.u64.wrap (a1 - p1.2.2.2.1)) < (4 : Int))))).bind fun g4 =>
  some g4) else some false).bind fun g3 =>
  bif g3 then (rpc_Caller_Tick.j1 n (some ((p1.1.1, p1.1.2.1, p1.1.2.2.1, p1.1.2.2.2.1, p1.1.2.2.2.2.1, p1.1.2.2.2.2.2.1, p1.1.2.2.2.2.2.2), p1.2.1, p1.2.2.1, p1.2.2.2.1, p1.2.2.2.2)) ((0 : Int), (0 : Int), (0 : Int), (0 : Int), (0 : Int), ([] : List Int), ()))
  else (some ((some ((p1.1.1, p1.1.2.1, p1.1.2.2.1, p1.1.2.2.2.1, p1.1.2.2.2.2.1, p1.1.2.2.2.2.2.1, p1.1.2.2.2.2.2.2), p1.2.1, (IntKind.i64.wrap (p1.2.2.1 + (1 : Int))), a1, p1.2.2.2.2)), (p1.1.1, p1.1.2.1, p1.1.2.2.1, p1.1.2.2.2.1, p1.1.2.2.2.2.1, p1.1.2.2.2.2.2.1, p1.1.2.2.2.2.2.2), true, ())))
theorem rpc_Caller_Tick.w (n : Nat) (a0 : Option DCaller) (a1 : Int) (X1 : XC) : evFn (rpc_Caller_Tick.d n X1) rpc_Caller_Tick.rs rpc_Caller_Tick.ps rpc_Caller_Tick.r (a0, a1, ()) =
  (optM a0 (ev X1 [(0, some ⟨.opt TCaller, (none : Option DCaller)⟩), (4, some ⟨.box TPacket, (((0 : Int), (0 : Int), (0 : Int), (0 : Int), (0 : Int), ([] : List Int), ()) : DPacket)⟩)] (⟨retK rpc_Caller_Tick.rs rpc_Caller_Tick.ps rpc_Caller_Tick.r, [(1000000, (fun _ => none))]⟩ : Ks rpc_Caller_Tick.R) (retK rpc_Caller_Tick.rs rpc_Caller_Tick.ps rpc_Caller_Tick.r)) fun p1 => (some (!p1.2.1)).bind fun g2 =>
  bif g2 then (ev X1 [(0, some ⟨.opt TCaller, ((some ((p1.1.1, p1.1.2.1, p1.1.2.2.1, p1.1.2.2.2.1, p1.1.2.2.2.2.1, p1.1.2.2.2.2.2.1, p1.1.2.2.2.2.2.2), p1.2.1, p1.2.2.1, p1.2.2.2.1, p1.2.2.2.2)) : Option DCaller)⟩), (4, some ⟨.box TPacket, (((0 : Int), (0 : Int), (0 : Int), (0 : Int), (0 : Int), ([] : List Int), ()) : DPacket)⟩)] (⟨retK rpc_Caller_Tick.rs rpc_Caller_Tick.ps rpc_Caller_Tick.r, [(1000000, (fun _ => none))]⟩ : Ks rpc_Caller_Tick.R) (retK rpc_Caller_Tick.rs rpc_Caller_Tick.ps rpc_Caller_Tick.r))
  else ((bif (decide ((0 : Int) < p1.2.2.1)) then ((bif (decide (a1 < p1.2.2.2.1)) then some true else (some (decide ((IntKind.u64.wrap (a1 - p1.2.2.2.1)) < (4 : Int))))).bind fun g4 =>
  some g4) else some false).bind fun g3 =>
  bif g3 then (ev X1 [(0, some ⟨.opt TCaller, ((some ((p1.1.1, p1.1.2.1, p1.1.2.2.1, p1.1.2.2.2.1, p1.1.2.2.2.2.1, p1.1.2.2.2.2.2.1, p1.1.2.2.2.2.2.2), p1.2.1, p1.2.2.1, p1.2.2.2.1, p1.2.2.2.2)) : Option DCaller)⟩), (4, some ⟨.box TPacket, (((0 : Int), (0 : Int), (0 : Int), (0 : Int), (0 : Int), ([] : List Int), ()) : DPacket)⟩)] (⟨retK rpc_Caller_Tick.rs rpc_Caller_Tick.ps rpc_Caller_Tick.r, [(1000000, (fun _ => none))]⟩ : Ks rpc_Caller_Tick.R) (retK rpc_Caller_Tick.rs rpc_Caller_Tick.ps rpc_Caller_Tick.r))
  else (some ((some ((p1.1.1, p1.1.2.1, p1.1.2.2.1, p1.1.2.2.2.1, p1.1.2.2.2.2.1, p1.1.2.2.2.2.2.1, p1.1.2.2.2.2.2.2), p1.2.1, (IntKind.i64.wrap (p1.2.2.1 + (1 : Int))), a1, p1.2.2.2.2)), (p1.1.1, p1.1.2.1, p1.1.2.2.1, p1.1.2.2.2.1, p1.1.2.2.2.2.1, p1.1.2.2.2.2.2.1, p1.1.2.2.2.2.2.2), true, ()))) : Option rpc_Caller_Tick.R) := by kernel_rfl
theorem rpc_Caller_Tick.ok (n : Nat) (a0 : Option DCaller) (a1 : Int) : evFn (rpc_Caller_Tick.c n) rpc_Caller_Tick.rs rpc_Caller_Tick.ps rpc_Caller_Tick.r (a0, a1, ()) = rpc_Caller_Tick.f n a0 a1 := (rpc_Caller_Tick.w n a0 a1 (rpc_Caller_Tick.c1 n)).trans (by simp only [rpc_Caller_Tick.f, rpc_Caller_Tick.s1 n] <;> kernel_rfl)
noncomputable def rpc_Caller_Tick.sp (n : Nat) : FSpec := { f := 16, ps := rpc_Caller_Tick.ps, r := rpc_Caller_Tick.r, run := fun x => rpc_Caller_Tick.f n x.1 x.2.1 }
theorem rpc_Caller_Tick.calls (n : Nat) : (rpc_Caller_Tick.c n).calls = [] := by kernel_rfl
theorem rpc_Caller_Tick.fits (n : Nat) : fnB tab hd Try.f16 (rpc_Caller_Tick.c n) rpc_Caller_Tick.rs (rpc_Caller_Tick.sp n).ps (rpc_Caller_Tick.sp n).r = true := by kernel_rfl
theorem rpc_Caller_Tick.sound (n : Nat) : Sound Try.prog (rpc_Caller_Tick.sp n) := by
  refine fnB_sound tabOk eqFacts mixed (fn := Try.f16) (c := rpc_Caller_Tick.c n) (rs := rpc_Caller_Tick.rs) (by kernel_rfl) ?_ (rpc_Caller_Tick.fits n) ?_
  · rw [rpc_Caller_Tick.calls]
    intro s hs; cases hs
  · rintro ⟨a0, a1, ⟨⟩⟩ y h
    exact (rpc_Caller_Tick.ok n a0 a1).trans h
theorem rpc_Caller_Tick.meets (n : Nat) : Meets Try.prog (rpc_Caller_Tick.sp n) := (rpc_Caller_Tick.sound n).meets
/-! (*backwater/rpc.Caller).Cancel -/
abbrev rpc_Caller_Cancel.ps : List (Ty × Bool) := [(.opt TCaller, true)]
abbrev rpc_Caller_Cancel.r : Ty := .int .i64
abbrev rpc_Caller_Cancel.rs : List RV := [.t 2]
abbrev rpc_Caller_Cancel.R : Type := (rtOf rpc_Caller_Cancel.ps rpc_Caller_Cancel.r).den
noncomputable def rpc_Caller_Cancel.d (n : Nat) : XC :=
  (.seq (.reg (.op (.mv 2 (.c ⟨.int .i64, ((0 : Int) : Int)⟩)) none <| .nil)) <|
  (.seq (.seq (.pre [.split 0 []] (.reg (.op (.bor 3 0) none <| .op (.eqnil 4 (.t 3) false false) none <| .nil))) <|
  (.cond (.t 4)
  (.seq (.reg (.op (.mv 2 (.c ⟨.int .i64, ((1 : Int) : Int)⟩)) none <| .nil)) <|
  .ret)
  .skip)) <|
  (.seq (.seq (.reg (.op (.bor 5 0) none <| .op (.nilchk 6 (.t 5)) none <| .op (.fa 7 6 1 6) none <| .op (.ld 8 7 1 false) none <| .op (.un 9 .not (.t 8)) none <| .nil)) <|
  (.cond (.t 9)
  (.seq (.reg (.op (.mv 2 (.c ⟨.int .i64, ((5 : Int) : Int)⟩)) none <| .nil)) <|
  .ret)
  .skip)) <|
  (.seq (.reg (.op (.bor 10 0) none <| .op (.nilchk 11 (.t 10)) none <| .op (.fa 12 11 1 6) none <| .op (.st 12 (.c ⟨.bool, (false : Bool)⟩) 1) none <| .nil)) <|
  (.seq (.pre [.keep [0]] (.reg (.op (.mv 2 (.c ⟨.int .i64, ((0 : Int) : Int)⟩)) none <| .nil))) <|
  .ret)))))
noncomputable abbrev rpc_Caller_Cancel.c (n : Nat) : XC := rpc_Caller_Cancel.d n
noncomputable def rpc_Caller_Cancel.f (n : Nat) (a0 : Option DCaller) : Option ((Option DCaller) × Int) :=
  optM a0 (some (none, (1 : Int))) fun p1 => bif (!p1.2.1) then (some ((some ((p1.1.1, p1.1.2.1, p1.1.2.2.1, p1.1.2.2.2.1, p1.1.2.2.2.2.1, p1.1.2.2.2.2.2.1, p1.1.2.2.2.2.2.2), p1.2.1, p1.2.2.1, p1.2.2.2.1, p1.2.2.2.2)), (5 : Int)))
  else (some ((some ((p1.1.1, p1.1.2.1, p1.1.2.2.1, p1.1.2.2.2.1, p1.1.2.2.2.2.1, p1.1.2.2.2.2.2.1, p1.1.2.2.2.2.2.2), false, p1.2.2.1, p1.2.2.2.1, p1.2.2.2.2)), (0 : Int)))
theorem rpc_Caller_Cancel.ok (n : Nat) (a0 : Option DCaller) : evFn (rpc_Caller_Cancel.c n) rpc_Caller_Cancel.rs rpc_Caller_Cancel.ps rpc_Caller_Cancel.r (a0, ()) = rpc_Caller_Cancel.f n a0 := by kernel_rfl
noncomputable def rpc_Caller_Cancel.sp (n : Nat) : FSpec := { f := 19, ps := rpc_Caller_Cancel.ps, r := rpc_Caller_Cancel.r, run := fun x => rpc_Caller_Cancel.f n x.1 }
theorem rpc_Caller_Cancel.calls (n : Nat) : (rpc_Caller_Cancel.c n).calls = [] := by kernel_rfl
theorem rpc_Caller_Cancel.fits (n : Nat) : fnB tab hd Try.f19 (rpc_Caller_Cancel.c n) rpc_Caller_Cancel.rs (rpc_Caller_Cancel.sp n).ps (rpc_Caller_Cancel.sp n).r = true := by kernel_rfl
theorem rpc_Caller_Cancel.sound (n : Nat) : Sound Try.prog (rpc_Caller_Cancel.sp n) := by
  refine fnB_sound tabOk eqFacts mixed (fn := Try.f19) (c := rpc_Caller_Cancel.c n) (rs := rpc_Caller_Cancel.rs) (by kernel_rfl) ?_ (rpc_Caller_Cancel.fits n) ?_
  · rw [rpc_Caller_Cancel.calls]
    intro s hs; cases hs
  · rintro ⟨a0, ⟨⟩⟩ y h
    exact (rpc_Caller_Cancel.ok n a0).trans h
theorem rpc_Caller_Cancel.meets (n : Nat) : Meets Try.prog (rpc_Caller_Cancel.sp n) := (rpc_Caller_Cancel.sound n).meets
/-! backwater/frame.Right -/
abbrev frame_Right.ps : List (Ty × Bool) := [(TPacket, false)]
abbrev frame_Right.r : Ty := .bool
abbrev frame_Right.rs : List RV := [.t 2]
abbrev frame_Right.R : Type := (rtOf frame_Right.ps frame_Right.r).den
noncomputable def frame_Right.d1 (n : Nat) : XC :=
  (.seq (.reg (.op (.mv 20 (.t 3)) none <| .op (.bin 21 .geq (.t 20) (.c ⟨.int .u8, ((1 : Int) : Int)⟩)) none <| .op (.mv 22 (.t 21)) none <| .grp 22 true (.op (.mv 23 (.t 3)) (some ([3, 22, 23], [23])) <| .op (.bin 24 .leq (.t 23) (.c ⟨.int .u8, ((3 : Int) : Int)⟩)) (some ([22, 23, 24], [24])) <| .nil) 24 25 [23, 24] <| .op (.mv 26 (.t 25)) none <| .grp 26 true (.op (.fa 27 1 4 4) (some ([1, 26, 27], [27])) <| .op (.ld 28 27 1 false) (some ([1, 26, 27, 28], [28])) <| .op (.bin 29 .gtr (.t 28) (.c ⟨.int .u32, ((0 : Int) : Int)⟩)) (some ([26, 28, 29], [29])) <| .nil) 29 30 [27, 28, 29] <| .op (.mv 31 (.t 30)) none <| .grp 31 true (.op (.fa 32 1 5 5) (some ([1, 31, 32], [32])) <| .op (.ld 33 32 1 false) (some ([1, 31, 32, 33], [33])) <| .op (.len 34 (.t 33) true) (some ([31, 33, 34], [34])) <| .op (.bin 35 .leq (.t 34) (.c ⟨.int .i64, ((16384 : Int) : Int)⟩)) (some ([31, 34, 35], [35])) <| .nil) 35 36 [32, 33, 34, 35] <| .op (.mv 2 (.t 36)) none <| .nil)) <|
  .ret)
noncomputable abbrev frame_Right.c1 (n : Nat) : XC := frame_Right.d1 n
noncomputable def frame_Right.j1 (n : Nat) (x1 : DPacket) (x3 : Int) : Option Bool :=
  (bif (decide ((1 : Int) ≤ x3)) then (some (decide (x3 ≤ (3 : Int)))) else some false).bind fun g1 =>
  (bif g1 then (some (decide ((0 : Int) < x1.2.2.2.2.1))) else some false).bind fun g2 =>
  (bif g2 then (some (decide ((x1.2.2.2.2.2.1.length : Int) ≤ (16384 : Int)))) else some false).bind fun g3 =>
  some g3
theorem frame_Right.s1 (n : Nat) (x1 : DPacket) (x3 : Int) : ev (frame_Right.c1 n) [(1, some ⟨.box TPacket, x1⟩), (3, some ⟨.int .u8, x3⟩)] (⟨retK frame_Right.rs frame_Right.ps frame_Right.r, []⟩ : Ks frame_Right.R) (retK frame_Right.rs frame_Right.ps frame_Right.r) = frame_Right.j1 n x1 x3 := by kernel_rfl
noncomputable def frame_Right.H1 (n : Nat) (X : XC) : St → Option frame_Right.R := fun st => ghK [.keep [1, 3]] st fun st => ev X st (⟨retK frame_Right.rs frame_Right.ps frame_Right.r, []⟩ : Ks frame_Right.R) (retK frame_Right.rs frame_Right.ps frame_Right.r)
noncomputable abbrev frame_Right.K1 (n : Nat) : St → Option frame_Right.R := frame_Right.H1 n (frame_Right.c1 n)
noncomputable def frame_Right.d (n : Nat) (X1 : XC) : XC :=
  (.seq (.reg (.op (.boxv 1 (.t 0)) none <| .op (.mv 2 (.c ⟨.bool, (false : Bool)⟩)) none <| .nil)) <|
  (.seq (.reg (.op (.fa 4 1 1 1) none <| .op (.ld 5 4 1 false) none <| .op (.mv 3 (.t 5)) none <| .nil)) <|
  (.seq (.aft (.seq (.reg (.op (.fa 6 1 0 0) none <| .op (.ld 7 6 1 false) none <| .nil)) <|
  (.block 0 (.seq (.reg (.op (.bin 9 .eql (.t 7) (.c ⟨.int .u8, ((1 : Int) : Int)⟩)) none <| .op (.mv 8 (.t 9)) none <| .nil)) <|
  (.cond (.t 8)
  (.seq (.reg (.op (.fa 10 1 2 2) none <| .op (.ld 11 10 1 false) none <| .op (.bin 12 .neq (.t 11) (.c ⟨.int .u8, ((0 : Int) : Int)⟩)) none <| .nil)) <|
  (.cond (.t 12)
  (.seq (.pre [.keep []] (.reg (.op (.mv 2 (.c ⟨.bool, (false : Bool)⟩)) none <| .nil))) <|
  .ret)
  .skip))
  (.seq (.reg (.op (.bin 14 .eql (.t 7) (.c ⟨.int .u8, ((2 : Int) : Int)⟩)) none <| .op (.mv 13 (.t 14)) none <| .nil)) <|
  (.cond (.t 13)
  (.seq (.seq (.pre [.keep [1]] (.reg (.op (.fa 15 1 1 1) none <| .op (.ld 16 15 1 false) none <| .op (.bin 17 .neq (.t 16) (.c ⟨.int .u8, ((0 : Int) : Int)⟩)) none <| .nil))) <|
  (.cond (.t 17)
  (.seq (.reg (.op (.mv 2 (.c ⟨.bool, (false : Bool)⟩)) none <| .nil)) <|
  .ret)
  .skip)) <|
  (.reg (.op (.fa 18 1 2 2) none <| .op (.ld 19 18 1 false) none <| .op (.mv 3 (.t 19)) none <| .nil)))
  (.seq (.pre [.keep []] (.reg (.op (.mv 2 (.c ⟨.bool, (false : Bool)⟩)) none <| .nil))) <|
  .ret))))))) [.keep [1, 3]]) X1)))
noncomputable abbrev frame_Right.c (n : Nat) : XC := frame_Right.d n (frame_Right.c1 n)
noncomputable def frame_Right.f (n : Nat) (a0 : DPacket) : Option Bool :=
  bif (decide (a0.1 = (1 : Int))) then (bif (!decide (a0.2.2.1 = (0 : Int))) then (some false)
  else (frame_Right.j1 n (a0.1, a0.2.1, a0.2.2.1, a0.2.2.2.1, a0.2.2.2.2.1, a0.2.2.2.2.2.1, a0.2.2.2.2.2.2) a0.2.1))
  else (bif (decide (a0.1 = (2 : Int))) then (bif (!decide (a0.2.1 = (0 : Int))) then (some false)
  else (frame_Right.j1 n (a0.1, a0.2.1, a0.2.2.1, a0.2.2.2.1, a0.2.2.2.2.1, a0.2.2.2.2.2.1, a0.2.2.2.2.2.2) a0.2.2.1))
  else (some false))
theorem frame_Right.w (n : Nat) (a0 : DPacket) (X1 : XC) : evFn (frame_Right.d n X1) frame_Right.rs frame_Right.ps frame_Right.r (a0, ()) =
  (bif (decide (a0.1 = (1 : Int))) then (bif (!decide (a0.2.2.1 = (0 : Int))) then (some false)
  else (ev X1 [(1, some ⟨.box TPacket, ((a0.1, a0.2.1, a0.2.2.1, a0.2.2.2.1, a0.2.2.2.2.1, a0.2.2.2.2.2.1, a0.2.2.2.2.2.2) : DPacket)⟩), (3, some ⟨.int .u8, a0.2.1⟩)] (⟨retK frame_Right.rs frame_Right.ps frame_Right.r, []⟩ : Ks frame_Right.R) (retK frame_Right.rs frame_Right.ps frame_Right.r)))
  else (bif (decide (a0.1 = (2 : Int))) then (bif (!decide (a0.2.1 = (0 : Int))) then (some false)
  else (ev X1 [(1, some ⟨.box TPacket, ((a0.1, a0.2.1, a0.2.2.1, a0.2.2.2.1, a0.2.2.2.2.1, a0.2.2.2.2.2.1, a0.2.2.2.2.2.2) : DPacket)⟩), (3, some ⟨.int .u8, a0.2.2.1⟩)] (⟨retK frame_Right.rs frame_Right.ps frame_Right.r, []⟩ : Ks frame_Right.R) (retK frame_Right.rs frame_Right.ps frame_Right.r)))
  else (some false)) : Option frame_Right.R) := by kernel_rfl
theorem frame_Right.ok (n : Nat) (a0 : DPacket) : evFn (frame_Right.c n) frame_Right.rs frame_Right.ps frame_Right.r (a0, ()) = frame_Right.f n a0 := (frame_Right.w n a0 (frame_Right.c1 n)).trans (by simp only [frame_Right.f, frame_Right.s1 n] <;> kernel_rfl)
noncomputable def frame_Right.sp (n : Nat) : FSpec := { f := 32, ps := frame_Right.ps, r := frame_Right.r, run := fun x => frame_Right.f n x.1 }
theorem frame_Right.calls (n : Nat) : (frame_Right.c n).calls = [] := by kernel_rfl
theorem frame_Right.fits (n : Nat) : fnB tab hd Try.f32 (frame_Right.c n) frame_Right.rs (frame_Right.sp n).ps (frame_Right.sp n).r = true := by kernel_rfl
theorem frame_Right.sound (n : Nat) : Sound Try.prog (frame_Right.sp n) := by
  refine fnB_sound tabOk eqFacts mixed (fn := Try.f32) (c := frame_Right.c n) (rs := frame_Right.rs) (by kernel_rfl) ?_ (frame_Right.fits n) ?_
  · rw [frame_Right.calls]
    intro s hs; cases hs
  · rintro ⟨a0, ⟨⟩⟩ y h
    exact (frame_Right.ok n a0).trans h
theorem frame_Right.meets (n : Nat) : Meets Try.prog (frame_Right.sp n) := (frame_Right.sound n).meets
/-! (backwater/rpc.past).answer -/
abbrev rpc_past_answer.ps : List (Ty × Bool) := [(Tpast, false), (.int .u8, false)]
abbrev rpc_past_answer.r : Ty := TPacket
abbrev rpc_past_answer.rs : List RV := [.c 4 6 true]
abbrev rpc_past_answer.R : Type := (rtOf rpc_past_answer.ps rpc_past_answer.r).den
noncomputable def rpc_past_answer.d (n : Nat) : XC :=
  (.seq (.reg (.op (.boxv 2 (.t 0)) none <| .op (.alloc 4 ⟨TPacket, (((0 : Int), (0 : Int), (0 : Int), (0 : Int), (0 : Int), ([] : List Int), ()) : DPacket)⟩) none <| .nil)) <|
  (.seq (.reg (.op (.mv 5 (.t 1)) none <| .op (.fa 6 2 1 1) none <| .op (.ld 7 6 1 false) none <| .op (.fa 8 2 2 2) none <| .op (.ld 9 8 1 false) none <| .op (.fa 10 2 3 3) none <| .op (.ld 11 10 1 false) none <| .op (.build 12 ⟨TPacket, (((0 : Int), (0 : Int), (0 : Int), (0 : Int), (0 : Int), ([] : List Int), ()) : DPacket)⟩ [(0, (.c ⟨.int .u8, ((2 : Int) : Int)⟩), false), (2, (.t 5), false), (3, (.t 7), false), (4, (.t 9), false), (5, (.t 11), false)]) none <| .op (.st 4 (.t 12) 6) none <| .nil)) <|
  .ret))
noncomputable abbrev rpc_past_answer.c (n : Nat) : XC := rpc_past_answer.d n
noncomputable def rpc_past_answer.f (n : Nat) (a0 : Dpast) (a1 : Int) : Option DPacket :=
  some ((2 : Int), (0 : Int), a1, a0.2.1, a0.2.2.1, a0.2.2.2.1, ())
theorem rpc_past_answer.ok (n : Nat) (a0 : Dpast) (a1 : Int) : evFn (rpc_past_answer.c n) rpc_past_answer.rs rpc_past_answer.ps rpc_past_answer.r (a0, a1, ()) = rpc_past_answer.f n a0 a1 := by kernel_rfl
noncomputable def rpc_past_answer.sp (n : Nat) : FSpec := { f := 33, ps := rpc_past_answer.ps, r := rpc_past_answer.r, run := fun x => rpc_past_answer.f n x.1 x.2.1 }
theorem rpc_past_answer.calls (n : Nat) : (rpc_past_answer.c n).calls = [] := by kernel_rfl
theorem rpc_past_answer.fits (n : Nat) : fnB tab hd Try.f33 (rpc_past_answer.c n) rpc_past_answer.rs (rpc_past_answer.sp n).ps (rpc_past_answer.sp n).r = true := by kernel_rfl
theorem rpc_past_answer.sound (n : Nat) : Sound Try.prog (rpc_past_answer.sp n) := by
  refine fnB_sound tabOk eqFacts mixed (fn := Try.f33) (c := rpc_past_answer.c n) (rs := rpc_past_answer.rs) (by kernel_rfl) ?_ (rpc_past_answer.fits n) ?_
  · rw [rpc_past_answer.calls]
    intro s hs; cases hs
  · rintro ⟨a0, a1, ⟨⟩⟩ y h
    exact (rpc_past_answer.ok n a0 a1).trans h
theorem rpc_past_answer.meets (n : Nat) : Meets Try.prog (rpc_past_answer.sp n) := (rpc_past_answer.sound n).meets
/-! (*backwater/rpc.Callee).Take -/
abbrev rpc_Callee_Take.ps : List (Ty × Bool) := [(.opt TCallee, true), (TPacket, false)]
abbrev rpc_Callee_Take.r : Ty := .tup (.pair .str (.pair .bool (.pair TPacket (.pair .bool .unit))))
abbrev rpc_Callee_Take.rs : List RV := [.t 4, .t 5, .c 6 6 true, .t 7]
abbrev rpc_Callee_Take.R : Type := (rtOf rpc_Callee_Take.ps rpc_Callee_Take.r).den
noncomputable def rpc_Callee_Take.d (n : Nat) : XC :=
  (.seq (.reg (.op (.boxv 3 (.t 1)) none <| .op (.mv 4 (.c ⟨.str, (([] : List Int) : List Int)⟩)) none <| .op (.mv 5 (.c ⟨.bool, (false : Bool)⟩)) none <| .op (.alloc 6 ⟨TPacket, (((0 : Int), (0 : Int), (0 : Int), (0 : Int), (0 : Int), ([] : List Int), ()) : DPacket)⟩) none <| .op (.mv 7 (.c ⟨.bool, (false : Bool)⟩)) none <| .nil)) <|
  (.seq (.seq (.pre [.split 0 []] (.reg (.op (.bor 11 0) none <| .op (.eqnil 12 (.t 11) false false) none <| .op (.mv 13 (.t 12)) none <| .grp 13 false (.op (.fa 14 3 0 0) (some ([3, 13, 14], [14])) <| .op (.ld 15 14 1 false) (some ([3, 13, 14, 15], [15])) <| .op (.bin 16 .neq (.t 15) (.c ⟨.int .u8, ((1 : Int) : Int)⟩)) (some ([13, 15, 16], [16])) <| .nil) 16 17 [14, 15, 16] <| .op (.mv 18 (.t 17)) none <| .grp 18 false (.op (.ld 19 3 6 true) (some ([3, 18, 19], [19])) <| .op (.call (some 20) (frame_Right.sp n) [.v (.t 19)]) (some ([18, 19, 20], [20])) <| .op (.un 21 .not (.t 20)) (some ([18, 20, 21], [21])) <| .nil) 21 22 [19, 20, 21] <| .nil))) <|
  (.cond (.t 22)
  (.seq (.regD (.op (.mv 23 (.t 4)) (some ([4, 23], [23])) <| .op (.ld 24 6 6 true) (some ([6, 24], [24])) <| .op (.mv 4 (.t 23)) (some ([4, 23], [4])) <| .op (.mv 5 (.c ⟨.bool, (false : Bool)⟩)) (some ([5], [5])) <| .op (.st 6 (.t 24) 6) (some ([6, 24], [6])) <| .op (.mv 7 (.c ⟨.bool, (false : Bool)⟩)) (some ([7], [7])) <| .nil)) <|
  .ret)
  .skip)) <|
  (.seq (.regD (.op (.bor 25 0) (some ([0, 25], [25])) <| .op (.fa 26 3 1 1) (some ([3, 26], [26])) <| .op (.ld 27 26 1 false) (some ([3, 26, 27], [27])) <| .op (.bin 28 .sub (.t 27) (.c ⟨.int .u8, ((1 : Int) : Int)⟩)) (some ([27, 28], [28])) <| .op (.nilchk 29 (.t 25)) (some ([0, 25, 29], [29])) <| .op (.fa 30 29 0 0) (some ([0, 29, 30], [30])) <| .op (.idxA 31 (.t 30) (.t 28) 4 3) (some ([0, 28, 30, 31], [31])) <| .op (.bor 8 31) (some ([0, 8, 31], [8])) <| .nil)) <|
  (.seq (.pre [.keep [0, 3, 4, 6, 8]] (.regD (.op (.bor 32 8) (some ([0, 8, 32], [32])) <| .op (.nilchk 33 (.t 32)) (some ([0, 32, 33], [33])) <| .op (.fa 34 33 0 0) (some ([0, 33, 34], [34])) <| .op (.ld 35 34 1 false) (some ([0, 34, 35], [35])) <| .op (.bin 36 .neq (.t 35) (.c ⟨.int .u8, ((0 : Int) : Int)⟩)) (some ([35, 36], [36])) <| .op (.mv 37 (.t 36)) (some ([36, 37], [37])) <| .grp 37 true (.op (.fa 38 3 3 3) (some ([3, 37, 38], [38])) <| .op (.ld 39 38 1 false) (some ([3, 37, 38, 39], [39])) <| .op (.bor 40 8) (some ([0, 8, 37, 40], [40])) <| .op (.nilchk 41 (.t 40)) (some ([0, 37, 40, 41], [41])) <| .op (.fa 42 41 1 1) (some ([0, 37, 41, 42], [42])) <| .op (.ld 43 42 1 false) (some ([0, 37, 42, 43], [43])) <| .op (.bin 44 .eql (.t 39) (.t 43)) (some ([37, 39, 43, 44], [44])) <| .nil) 44 45 [38, 39, 40, 41, 42, 43, 44] <| .op (.mv 46 (.t 45)) (some ([45, 46], [46])) <| .grp 46 true (.op (.fa 47 3 4 4) (some ([3, 46, 47], [47])) <| .op (.ld 48 47 1 false) (some ([3, 46, 47, 48], [48])) <| .op (.bor 49 8) (some ([0, 8, 46, 49], [49])) <| .op (.nilchk 50 (.t 49)) (some ([0, 46, 49, 50], [50])) <| .op (.fa 51 50 2 2) (some ([0, 46, 50, 51], [51])) <| .op (.ld 52 51 1 false) (some ([0, 46, 51, 52], [52])) <| .op (.bin 53 .eql (.t 48) (.t 52)) (some ([46, 48, 52, 53], [53])) <| .nil) 53 54 [47, 48, 49, 50, 51, 52, 53] <| .op (.mv 9 (.t 54)) (some ([9, 54], [9])) <| .nil))) <|
  (.seq (.regD (.op (.bor 55 8) (some ([0, 8, 55], [55])) <| .op (.nilchk 56 (.t 55)) (some ([0, 55, 56], [56])) <| .op (.fa 57 56 0 0) (some ([0, 56, 57], [57])) <| .op (.ld 58 57 1 false) (some ([0, 57, 58], [58])) <| .op (.bin 59 .eql (.t 58) (.c ⟨.int .u8, ((0 : Int) : Int)⟩)) (some ([58, 59], [59])) <| .op (.mv 60 (.t 59)) (some ([59, 60], [60])) <| .grp 60 false (.op (.fa 61 3 3 3) (some ([3, 60, 61], [61])) <| .op (.ld 62 61 1 false) (some ([3, 60, 61, 62], [62])) <| .op (.bor 63 8) (some ([0, 8, 60, 63], [63])) <| .op (.nilchk 64 (.t 63)) (some ([0, 60, 63, 64], [64])) <| .op (.fa 65 64 1 1) (some ([0, 60, 64, 65], [65])) <| .op (.ld 66 65 1 false) (some ([0, 60, 65, 66], [66])) <| .op (.bin 67 .gtr (.t 62) (.t 66)) (some ([60, 62, 66, 67], [67])) <| .nil) 67 68 [61, 62, 63, 64, 65, 66, 67] <| .op (.mv 69 (.t 68)) (some ([68, 69], [69])) <| .grp 69 false (.op (.fa 70 3 3 3) (some ([3, 69, 70], [70])) <| .op (.ld 71 70 1 false) (some ([3, 69, 70, 71], [71])) <| .op (.bor 72 8) (some ([0, 8, 69, 72], [72])) <| .op (.nilchk 73 (.t 72)) (some ([0, 69, 72, 73], [73])) <| .op (.fa 74 73 1 1) (some ([0, 69, 73, 74], [74])) <| .op (.ld 75 74 1 false) (some ([0, 69, 74, 75], [75])) <| .op (.bin 76 .eql (.t 71) (.t 75)) (some ([69, 71, 75, 76], [76])) <| .op (.mv 77 (.t 76)) (some ([69, 76, 77], [77])) <| .grp 77 true (.op (.fa 78 3 4 4) (some ([3, 77, 78], [78])) <| .op (.ld 79 78 1 false) (some ([3, 77, 78, 79], [79])) <| .op (.bor 80 8) (some ([0, 8, 77, 80], [80])) <| .op (.nilchk 81 (.t 80)) (some ([0, 77, 80, 81], [81])) <| .op (.fa 82 81 2 2) (some ([0, 77, 81, 82], [82])) <| .op (.ld 83 82 1 false) (some ([0, 77, 82, 83], [83])) <| .op (.bin 84 .gtr (.t 79) (.t 83)) (some ([77, 79, 83, 84], [84])) <| .nil) 84 85 [78, 79, 80, 81, 82, 83, 84] <| .nil) 85 86 [70, 71, 72, 73, 74, 75, 76, 77, 78, 79, 80, 81, 82, 83, 84, 85] <| .op (.mv 10 (.t 86)) (some ([10, 86], [10])) <| .nil)) <|
  (.seq (.seq (.pre [.keep [0, 3, 4, 6, 8, 9, 10]] (.reg (.op (.mv 87 (.t 10)) none <| .nil))) <|
  (.cond (.t 87)
  (.seq (.reg (.op (.bor 88 8) none <| .op (.fa 89 3 3 3) none <| .op (.ld 90 89 1 false) none <| .op (.fa 91 3 4 4) none <| .op (.ld 92 91 1 false) none <| .op (.build 93 ⟨Tpast, (((0 : Int), (0 : Int), (0 : Int), ([] : List Int), ()) : Dpast)⟩ [(0, (.c ⟨.int .u8, ((1 : Int) : Int)⟩), false), (1, (.t 90), false), (2, (.t 92), false), (3, (.c ⟨.str, (([] : List Int) : List Int)⟩), false)]) none <| .op (.nilchk 94 (.t 88)) none <| .op (.st 94 (.t 93) 4) none <| .nil)) <|
  (.seq (.pre [.keep [0, 3, 6]] (.regD (.op (.fa 95 3 5 5) (some ([3, 95], [95])) <| .op (.ld 96 95 1 false) (some ([3, 95, 96], [96])) <| .op (.ld 97 6 6 true) (some ([6, 97], [97])) <| .op (.mv 4 (.t 96)) (some ([4, 96], [4])) <| .op (.mv 5 (.c ⟨.bool, (true : Bool)⟩)) (some ([5], [5])) <| .op (.st 6 (.t 97) 6) (some ([6, 97], [6])) <| .op (.mv 7 (.c ⟨.bool, (false : Bool)⟩)) (some ([7], [7])) <| .nil))) <|
  .ret))
  .skip)) <|
  (.seq (.seq (.reg (.op (.mv 98 (.t 9)) none <| .op (.mv 99 (.t 98)) none <| .grp 99 true (.op (.bor 100 8) (some ([0, 8, 99, 100], [100])) <| .op (.nilchk 101 (.t 100)) (some ([0, 99, 100, 101], [101])) <| .op (.fa 102 101 0 0) (some ([0, 99, 101, 102], [102])) <| .op (.ld 103 102 1 false) (some ([0, 99, 102, 103], [103])) <| .op (.bin 104 .eql (.t 103) (.c ⟨.int .u8, ((2 : Int) : Int)⟩)) (some ([99, 103, 104], [104])) <| .nil) 104 105 [100, 101, 102, 103, 104] <| .nil)) <|
  (.cond (.t 105)
  (.seq (.regD (.op (.mv 106 (.t 4)) (some ([4, 106], [106])) <| .op (.bor 107 8) (some ([0, 8, 107], [107])) <| .op (.nilchk 108 (.t 107)) (some ([0, 107, 108], [108])) <| .op (.ld 109 108 4 true) (some ([0, 108, 109], [109])) <| .op (.fa 110 3 1 1) (some ([3, 110], [110])) <| .op (.ld 111 110 1 false) (some ([3, 110, 111], [111])) <| .op (.call (some 112) (rpc_past_answer.sp n) [.v (.t 109), .v (.t 111)]) (some ([109, 111, 112], [112])) <| .op (.mv 4 (.t 106)) (some ([4, 106], [4])) <| .op (.mv 5 (.c ⟨.bool, (false : Bool)⟩)) (some ([5], [5])) <| .op (.st 6 (.t 112) 6) (some ([6, 112], [6])) <| .op (.mv 7 (.c ⟨.bool, (true : Bool)⟩)) (some ([7], [7])) <| .nil)) <|
  .ret)
  .skip)) <|
  (.seq (.regD (.op (.mv 113 (.t 4)) (some ([4, 113], [113])) <| .op (.ld 114 6 6 true) (some ([6, 114], [114])) <| .op (.mv 4 (.t 113)) (some ([4, 113], [4])) <| .op (.mv 5 (.c ⟨.bool, (false : Bool)⟩)) (some ([5], [5])) <| .op (.st 6 (.t 114) 6) (some ([6, 114], [6])) <| .op (.mv 7 (.c ⟨.bool, (false : Bool)⟩)) (some ([7], [7])) <| .nil)) <|
  .ret))))))))
noncomputable abbrev rpc_Callee_Take.c (n : Nat) : XC := rpc_Callee_Take.d n
noncomputable def rpc_Callee_Take.f (n : Nat) (a0 : Option DCallee) (a1 : DPacket) : Option ((Option DCallee) × ((List Int) × Bool × DPacket × Bool × Unit)) :=
  optM a0 (some (none, ([] : List Int), false, ((0 : Int), (0 : Int), (0 : Int), (0 : Int), (0 : Int), ([] : List Int), ()), false, ())) fun p1 => (some (!decide (a1.1 = (1 : Int)))).bind fun g2 =>
  (bif g2 then some true else ((frame_Right.f n (a1.1, a1.2.1, a1.2.2.1, a1.2.2.2.1, a1.2.2.2.2.1, a1.2.2.2.2.2.1, a1.2.2.2.2.2.2)).bind fun r4 => some (!r4))).bind fun g3 =>
  bif g3 then (some ((some (p1.1, p1.2)), ([] : List Int), false, ((0 : Int), (0 : Int), (0 : Int), (0 : Int), (0 : Int), ([] : List Int), ()), false, ()))
  else (inK' (IntKind.u8.wrap (a1.2.1 - (1 : Int))) 3 ((lnth p1.1 (IntKind.u8.wrap (a1.2.1 - (1 : Int)))).bind fun e5 => (bif (!decide (e5.1 = (0 : Int))) then ((lnth p1.1 (IntKind.u8.wrap (a1.2.1 - (1 : Int)))).bind fun e7 => some (decide (a1.2.2.2.1 = e7.2.1))) else some false).bind fun g6 =>
  (bif g6 then ((lnth p1.1 (IntKind.u8.wrap (a1.2.1 - (1 : Int)))).bind fun e9 => some (decide (a1.2.2.2.2.1 = e9.2.2.1))) else some false).bind fun g8 =>
  (lnth p1.1 (IntKind.u8.wrap (a1.2.1 - (1 : Int)))).bind fun e10 => (bif (decide (e10.1 = (0 : Int))) then some true else ((lnth p1.1 (IntKind.u8.wrap (a1.2.1 - (1 : Int)))).bind fun e12 => some (decide (e12.2.1 < a1.2.2.2.1)))).bind fun g11 =>
  (bif g11 then some true else ((lnth p1.1 (IntKind.u8.wrap (a1.2.1 - (1 : Int)))).bind fun e14 => (bif (decide (a1.2.2.2.1 = e14.2.1)) then ((lnth p1.1 (IntKind.u8.wrap (a1.2.1 - (1 : Int)))).bind fun e16 => some (decide (e16.2.2.1 < a1.2.2.2.2.1))) else some false).bind fun g15 =>
  some g15)).bind fun g13 =>
  bif g13 then (some ((some ((lset p1.1 (IntKind.u8.wrap (a1.2.1 - (1 : Int))) ((1 : Int), a1.2.2.2.1, a1.2.2.2.2.1, ([] : List Int), ())), p1.2)), a1.2.2.2.2.2.1, true, ((0 : Int), (0 : Int), (0 : Int), (0 : Int), (0 : Int), ([] : List Int), ()), false, ()))
  else ((bif g8 then ((lnth p1.1 (IntKind.u8.wrap (a1.2.1 - (1 : Int)))).bind fun e18 => some (decide (e18.1 = (2 : Int)))) else some false).bind fun g17 =>
  bif g17 then ((lnth p1.1 (IntKind.u8.wrap (a1.2.1 - (1 : Int)))).bind fun e19 => (rpc_past_answer.f n (e19.1, e19.2.1, e19.2.2.1, e19.2.2.2.1, e19.2.2.2.2) a1.2.1).bind fun r20 => some ((some (p1.1, p1.2)), ([] : List Int), false, (r20.1, r20.2.1, r20.2.2.1, r20.2.2.2.1, r20.2.2.2.2.1, r20.2.2.2.2.2.1, r20.2.2.2.2.2.2), true, ()))
  else (some ((some (p1.1, p1.2)), ([] : List Int), false, ((0 : Int), (0 : Int), (0 : Int), (0 : Int), (0 : Int), ([] : List Int), ()), false, ())))))
theorem rpc_Callee_Take.ok (n : Nat) (a0 : Option DCallee) (a1 : DPacket) : evFn (rpc_Callee_Take.c n) rpc_Callee_Take.rs rpc_Callee_Take.ps rpc_Callee_Take.r (a0, a1, ()) = rpc_Callee_Take.f n a0 a1 := by kernel_rfl
noncomputable def rpc_Callee_Take.sp (n : Nat) : FSpec := { f := 12, ps := rpc_Callee_Take.ps, r := rpc_Callee_Take.r, run := fun x => rpc_Callee_Take.f n x.1 x.2.1 }
theorem rpc_Callee_Take.calls (n : Nat) : (rpc_Callee_Take.c n).calls = [frame_Right.sp n, rpc_past_answer.sp n] := by kernel_rfl
theorem rpc_Callee_Take.fits (n : Nat) : fnB tab hd Try.f12 (rpc_Callee_Take.c n) rpc_Callee_Take.rs (rpc_Callee_Take.sp n).ps (rpc_Callee_Take.sp n).r = true := by kernel_rfl
theorem rpc_Callee_Take.sound (n : Nat) : Sound Try.prog (rpc_Callee_Take.sp n) := by
  refine fnB_sound tabOk eqFacts mixed (fn := Try.f12) (c := rpc_Callee_Take.c n) (rs := rpc_Callee_Take.rs) (by kernel_rfl) ?_ (rpc_Callee_Take.fits n) ?_
  · rw [rpc_Callee_Take.calls]
    intro s hs
    simp only [List.mem_cons, List.not_mem_nil, or_false] at hs
    rcases hs with rfl | rfl
    · exact frame_Right.meets n
    · exact rpc_past_answer.meets n
  · rintro ⟨a0, a1, ⟨⟩⟩ y h
    exact (rpc_Callee_Take.ok n a0 a1).trans h
theorem rpc_Callee_Take.meets (n : Nat) : Meets Try.prog (rpc_Callee_Take.sp n) := (rpc_Callee_Take.sound n).meets
/-! (*backwater/rpc.Callee).Reply -/
abbrev rpc_Callee_Reply.ps : List (Ty × Bool) := [(.opt TCallee, true), (.int .u8, false), (.str, false)]
abbrev rpc_Callee_Reply.r : Ty := .tup (.pair TPacket (.pair (.int .i64) .unit))
abbrev rpc_Callee_Reply.rs : List RV := [.c 6 6 true, .t 7]
abbrev rpc_Callee_Reply.R : Type := (rtOf rpc_Callee_Reply.ps rpc_Callee_Reply.r).den
noncomputable def rpc_Callee_Reply.d (n : Nat) : XC :=
  (.seq (.reg (.op (.alloc 6 ⟨TPacket, (((0 : Int), (0 : Int), (0 : Int), (0 : Int), (0 : Int), ([] : List Int), ()) : DPacket)⟩) none <| .op (.mv 7 (.c ⟨.int .i64, ((0 : Int) : Int)⟩)) none <| .nil)) <|
  (.seq (.seq (.pre [.split 0 []] (.reg (.op (.bor 9 0) none <| .op (.eqnil 10 (.t 9) false false) none <| .nil))) <|
  (.cond (.t 10)
  (.seq (.reg (.op (.build 11 ⟨TPacket, (((0 : Int), (0 : Int), (0 : Int), (0 : Int), (0 : Int), ([] : List Int), ()) : DPacket)⟩ []) none <| .op (.st 6 (.t 11) 6) none <| .op (.mv 7 (.c ⟨.int .i64, ((1 : Int) : Int)⟩)) none <| .nil)) <|
  .ret)
  .skip)) <|
  (.seq (.seq (.reg (.op (.mv 12 (.t 1)) none <| .op (.bin 13 .eql (.t 12) (.c ⟨.int .u8, ((0 : Int) : Int)⟩)) none <| .op (.mv 14 (.t 13)) none <| .grp 14 false (.op (.mv 15 (.t 1)) (some ([1, 14, 15], [15])) <| .op (.bin 16 .gtr (.t 15) (.c ⟨.int .u8, ((3 : Int) : Int)⟩)) (some ([14, 15, 16], [16])) <| .nil) 16 17 [15, 16] <| .nil)) <|
  (.cond (.t 17)
  (.seq (.reg (.op (.build 18 ⟨TPacket, (((0 : Int), (0 : Int), (0 : Int), (0 : Int), (0 : Int), ([] : List Int), ()) : DPacket)⟩ []) none <| .op (.st 6 (.t 18) 6) none <| .op (.mv 7 (.c ⟨.int .i64, ((2 : Int) : Int)⟩)) none <| .nil)) <|
  .ret)
  .skip)) <|
  (.seq (.reg (.op (.bor 19 0) none <| .op (.mv 20 (.t 1)) none <| .op (.bin 21 .sub (.t 20) (.c ⟨.int .u8, ((1 : Int) : Int)⟩)) none <| .op (.nilchk 22 (.t 19)) none <| .op (.fa 23 22 0 0) none <| .op (.idxA 24 (.t 23) (.t 21) 4 3) none <| .op (.bor 8 24) none <| .nil)) <|
  (.seq (.seq (.pre [.keep [0, 1, 2, 6, 8]] (.reg (.op (.bor 25 8) none <| .op (.nilchk 26 (.t 25)) none <| .op (.fa 27 26 0 0) none <| .op (.ld 28 27 1 false) none <| .op (.bin 29 .neq (.t 28) (.c ⟨.int .u8, ((1 : Int) : Int)⟩)) none <| .nil))) <|
  (.cond (.t 29)
  (.seq (.reg (.op (.build 30 ⟨TPacket, (((0 : Int), (0 : Int), (0 : Int), (0 : Int), (0 : Int), ([] : List Int), ()) : DPacket)⟩ []) none <| .op (.st 6 (.t 30) 6) none <| .op (.mv 7 (.c ⟨.int .i64, ((5 : Int) : Int)⟩)) none <| .nil)) <|
  .ret)
  .skip)) <|
  (.seq (.seq (.reg (.op (.mv 31 (.t 2)) none <| .op (.len 32 (.t 31) true) none <| .op (.bin 33 .gtr (.t 32) (.c ⟨.int .i64, ((16384 : Int) : Int)⟩)) none <| .nil)) <|
  (.cond (.t 33)
  (.seq (.pre [.keep [0, 6]] (.reg (.op (.build 34 ⟨TPacket, (((0 : Int), (0 : Int), (0 : Int), (0 : Int), (0 : Int), ([] : List Int), ()) : DPacket)⟩ []) none <| .op (.st 6 (.t 34) 6) none <| .op (.mv 7 (.c ⟨.int .i64, ((3 : Int) : Int)⟩)) none <| .nil))) <|
  .ret)
  .skip)) <|
  (.seq (.reg (.op (.bor 35 8) none <| .op (.bor 36 8) none <| .op (.mv 37 (.t 2)) none <| .op (.nilchk 38 (.t 35)) none <| .op (.fa 39 38 0 0) none <| .op (.st 39 (.c ⟨.int .u8, ((2 : Int) : Int)⟩) 1) none <| .op (.nilchk 40 (.t 36)) none <| .op (.fa 41 40 3 3) none <| .op (.st 41 (.t 37) 1) none <| .nil)) <|
  (.seq (.pre [.keep [0, 1, 6, 8]] (.reg (.op (.bor 42 8) none <| .op (.nilchk 43 (.t 42)) none <| .op (.ld 44 43 4 true) none <| .op (.mv 45 (.t 1)) none <| .op (.call (some 46) (rpc_past_answer.sp n) [.v (.t 44), .v (.t 45)]) none <| .op (.st 6 (.t 46) 6) none <| .op (.mv 7 (.c ⟨.int .i64, ((0 : Int) : Int)⟩)) none <| .nil))) <|
  .ret))))))))
noncomputable abbrev rpc_Callee_Reply.c (n : Nat) : XC := rpc_Callee_Reply.d n
noncomputable def rpc_Callee_Reply.f (n : Nat) (a0 : Option DCallee) (a1 : Int) (a2 : List Int) : Option ((Option DCallee) × (DPacket × Int × Unit)) :=
  optM a0 (some (none, ((0 : Int), (0 : Int), (0 : Int), (0 : Int), (0 : Int), ([] : List Int), ()), (1 : Int), ())) fun p1 => (bif (decide (a1 = (0 : Int))) then some true else (some (decide ((3 : Int) < a1)))).bind fun g2 =>
  bif g2 then (some ((some (p1.1, p1.2)), ((0 : Int), (0 : Int), (0 : Int), (0 : Int), (0 : Int), ([] : List Int), ()), (2 : Int), ()))
  else (inK' (IntKind.u8.wrap (a1 - (1 : Int))) 3 ((lnth p1.1 (IntKind.u8.wrap (a1 - (1 : Int)))).bind fun e3 => bif (!decide (e3.1 = (1 : Int))) then (some ((some (p1.1, p1.2)), ((0 : Int), (0 : Int), (0 : Int), (0 : Int), (0 : Int), ([] : List Int), ()), (5 : Int), ()))
  else (bif (decide ((16384 : Int) < (a2.length : Int))) then (some ((some (p1.1, p1.2)), ((0 : Int), (0 : Int), (0 : Int), (0 : Int), (0 : Int), ([] : List Int), ()), (3 : Int), ()))
  else ((lnth p1.1 (IntKind.u8.wrap (a1 - (1 : Int)))).bind fun e4 => (lnth (lset p1.1 (IntKind.u8.wrap (a1 - (1 : Int))) ((2 : Int), e4.2)) (IntKind.u8.wrap (a1 - (1 : Int)))).bind fun e5 => (lnth (lset (lset p1.1 (IntKind.u8.wrap (a1 - (1 : Int))) ((2 : Int), e4.2)) (IntKind.u8.wrap (a1 - (1 : Int))) (e5.1, e5.2.1, e5.2.2.1, a2, e5.2.2.2.2)) (IntKind.u8.wrap (a1 - (1 : Int)))).bind fun e6 => (rpc_past_answer.f n (e6.1, e6.2.1, e6.2.2.1, e6.2.2.2.1, e6.2.2.2.2) a1).bind fun r7 => some ((some ((lset (lset p1.1 (IntKind.u8.wrap (a1 - (1 : Int))) ((2 : Int), e4.2)) (IntKind.u8.wrap (a1 - (1 : Int))) (e5.1, e5.2.1, e5.2.2.1, a2, e5.2.2.2.2)), p1.2)), (r7.1, r7.2.1, r7.2.2.1, r7.2.2.2.1, r7.2.2.2.2.1, r7.2.2.2.2.2.1, r7.2.2.2.2.2.2), (0 : Int), ())))))
theorem rpc_Callee_Reply.ok (n : Nat) (a0 : Option DCallee) (a1 : Int) (a2 : List Int) : evFn (rpc_Callee_Reply.c n) rpc_Callee_Reply.rs rpc_Callee_Reply.ps rpc_Callee_Reply.r (a0, a1, a2, ()) = rpc_Callee_Reply.f n a0 a1 a2 := by kernel_rfl
noncomputable def rpc_Callee_Reply.sp (n : Nat) : FSpec := { f := 20, ps := rpc_Callee_Reply.ps, r := rpc_Callee_Reply.r, run := fun x => rpc_Callee_Reply.f n x.1 x.2.1 x.2.2.1 }
theorem rpc_Callee_Reply.calls (n : Nat) : (rpc_Callee_Reply.c n).calls = [rpc_past_answer.sp n] := by kernel_rfl
theorem rpc_Callee_Reply.fits (n : Nat) : fnB tab hd Try.f20 (rpc_Callee_Reply.c n) rpc_Callee_Reply.rs (rpc_Callee_Reply.sp n).ps (rpc_Callee_Reply.sp n).r = true := by kernel_rfl
theorem rpc_Callee_Reply.sound (n : Nat) : Sound Try.prog (rpc_Callee_Reply.sp n) := by
  refine fnB_sound tabOk eqFacts mixed (fn := Try.f20) (c := rpc_Callee_Reply.c n) (rs := rpc_Callee_Reply.rs) (by kernel_rfl) ?_ (rpc_Callee_Reply.fits n) ?_
  · rw [rpc_Callee_Reply.calls]
    intro s hs
    simp only [List.mem_cons, List.not_mem_nil, or_false] at hs
    rcases hs with rfl
    · exact rpc_past_answer.meets n
  · rintro ⟨a0, a1, a2, ⟨⟩⟩ y h
    exact (rpc_Callee_Reply.ok n a0 a1 a2).trans h
theorem rpc_Callee_Reply.meets (n : Nat) : Meets Try.prog (rpc_Callee_Reply.sp n) := (rpc_Callee_Reply.sound n).meets
/-! (*backwater/rpc.Caller).Busy -/
abbrev rpc_Caller_Busy.ps : List (Ty × Bool) := [(.oref TCaller, false)]
abbrev rpc_Caller_Busy.r : Ty := .bool
abbrev rpc_Caller_Busy.rs : List RV := [.t 2]
abbrev rpc_Caller_Busy.R : Type := (rtOf rpc_Caller_Busy.ps rpc_Caller_Busy.r).den
noncomputable def rpc_Caller_Busy.d (n : Nat) : XC :=
  (.seq (.reg (.op (.mv 2 (.c ⟨.bool, (false : Bool)⟩)) none <| .nil)) <|
  (.seq (.reg (.op (.mv 3 (.t 0)) none <| .op (.eqnil 4 (.t 3) true false) none <| .op (.mv 5 (.t 4)) none <| .grp 5 true (.op (.mv 6 (.t 0)) (some ([0, 5, 6], [6])) <| .op (.nilchk 7 (.t 6)) (some ([5, 6, 7], [7])) <| .op (.fa 8 7 1 6) (some ([5, 7, 8], [8])) <| .op (.ld 9 8 1 false) (some ([5, 8, 9], [9])) <| .nil) 9 10 [6, 7, 8, 9] <| .op (.mv 2 (.t 10)) none <| .nil)) <|
  .ret))
noncomputable abbrev rpc_Caller_Busy.c (n : Nat) : XC := rpc_Caller_Busy.d n
noncomputable def rpc_Caller_Busy.f (n : Nat) (a0 : Option DCaller) : Option Bool :=
  (bif (Option.isSome a0) then (optM a0 none fun p2 => some p2.2.1) else some false).bind fun g1 =>
  some g1
theorem rpc_Caller_Busy.ok (n : Nat) (a0 : Option DCaller) : evFn (rpc_Caller_Busy.c n) rpc_Caller_Busy.rs rpc_Caller_Busy.ps rpc_Caller_Busy.r (a0, ()) = rpc_Caller_Busy.f n a0 := by kernel_rfl
noncomputable def rpc_Caller_Busy.sp (n : Nat) : FSpec := { f := 18, ps := rpc_Caller_Busy.ps, r := rpc_Caller_Busy.r, run := fun x => rpc_Caller_Busy.f n x.1 }
theorem rpc_Caller_Busy.calls (n : Nat) : (rpc_Caller_Busy.c n).calls = [] := by kernel_rfl
theorem rpc_Caller_Busy.fits (n : Nat) : fnB tab hd Try.f18 (rpc_Caller_Busy.c n) rpc_Caller_Busy.rs (rpc_Caller_Busy.sp n).ps (rpc_Caller_Busy.sp n).r = true := by kernel_rfl
theorem rpc_Caller_Busy.sound (n : Nat) : Sound Try.prog (rpc_Caller_Busy.sp n) := by
  refine fnB_sound tabOk eqFacts mixed (fn := Try.f18) (c := rpc_Caller_Busy.c n) (rs := rpc_Caller_Busy.rs) (by kernel_rfl) ?_ (rpc_Caller_Busy.fits n) ?_
  · rw [rpc_Caller_Busy.calls]
    intro s hs; cases hs
  · rintro ⟨a0, ⟨⟩⟩ y h
    exact (rpc_Caller_Busy.ok n a0).trans h
theorem rpc_Caller_Busy.meets (n : Nat) : Meets Try.prog (rpc_Caller_Busy.sp n) := (rpc_Caller_Busy.sound n).meets
/-! (*backwater/rpc.Caller).Take -/
abbrev rpc_Caller_Take.ps : List (Ty × Bool) := [(.opt TCaller, true), (TPacket, false)]
abbrev rpc_Caller_Take.r : Ty := .tup (.pair .str (.pair .bool .unit))
abbrev rpc_Caller_Take.rs : List RV := [.t 4, .t 5]
abbrev rpc_Caller_Take.R : Type := (rtOf rpc_Caller_Take.ps rpc_Caller_Take.r).den
noncomputable def rpc_Caller_Take.d1 (n : Nat) : XC :=
  (.seq (.pre [.split 0 []] (.regD (.op (.bor 15 0) (some ([0, 15], [15])) <| .op (.nilchk 16 (.t 15)) (some ([0, 15, 16], [16])) <| .op (.fa 17 16 0 0) (some ([0, 16, 17], [17])) <| .op (.fa 18 17 1 1) (some ([0, 17, 18], [18])) <| .op (.ld 19 18 1 false) (some ([0, 18, 19], [19])) <| .op (.bor 20 0) (some ([0, 20], [20])) <| .op (.nilchk 21 (.t 20)) (some ([0, 20, 21], [21])) <| .op (.fa 22 21 0 0) (some ([0, 21, 22], [22])) <| .op (.fa 23 22 3 3) (some ([0, 22, 23], [23])) <| .op (.ld 24 23 1 false) (some ([0, 23, 24], [24])) <| .op (.bor 25 0) (some ([0, 25], [25])) <| .op (.nilchk 26 (.t 25)) (some ([0, 25, 26], [26])) <| .op (.fa 27 26 0 0) (some ([0, 26, 27], [27])) <| .op (.fa 28 27 4 4) (some ([0, 27, 28], [28])) <| .op (.ld 29 28 1 false) (some ([0, 28, 29], [29])) <| .op (.fa 30 3 5 5) (some ([3, 30], [30])) <| .op (.ld 31 30 1 false) (some ([3, 30, 31], [31])) <| .op (.build 32 ⟨TPacket, (((0 : Int), (0 : Int), (0 : Int), (0 : Int), (0 : Int), ([] : List Int), ()) : DPacket)⟩ [(0, (.c ⟨.int .u8, ((2 : Int) : Int)⟩), false), (2, (.t 19), false), (3, (.t 24), false), (4, (.t 29), false), (5, (.t 31), false)]) (some ([19, 24, 29, 31, 32], [32])) <| .op (.alloc 6 ⟨TPacket, (((0 : Int), (0 : Int), (0 : Int), (0 : Int), (0 : Int), ([] : List Int), ()) : DPacket)⟩) (some ([6], [6])) <| .op (.st 6 (.t 32) 6) (some ([6, 32], [6])) <| .nil))) <|
  (.seq (.seq (.pre [.keep [0, 3, 6]] (.reg (.op (.ld 33 3 6 true) none <| .op (.ld 34 6 6 true) none <| .op (.eqs 35 true (.t 33) (.t 34) TPacket) none <| .nil))) <|
  (.cond (.t 35)
  (.seq (.reg (.op (.mv 4 (.c ⟨.str, (([] : List Int) : List Int)⟩)) none <| .op (.mv 5 (.c ⟨.bool, (false : Bool)⟩)) none <| .nil)) <|
  .ret)
  .skip)) <|
  (.seq (.reg (.op (.bor 36 0) none <| .op (.nilchk 37 (.t 36)) none <| .op (.fa 38 37 1 6) none <| .op (.st 38 (.c ⟨.bool, (false : Bool)⟩) 1) none <| .nil)) <|
  (.seq (.reg (.op (.fa 39 3 5 5) none <| .op (.ld 40 39 1 false) none <| .op (.mv 4 (.t 40)) none <| .op (.mv 5 (.c ⟨.bool, (true : Bool)⟩)) none <| .nil)) <|
  .ret))))
noncomputable abbrev rpc_Caller_Take.c1 (n : Nat) : XC := rpc_Caller_Take.d1 n
noncomputable def rpc_Caller_Take.j1 (n : Nat) (x0 : Option DCaller) (x3 : DPacket) : Option ((Option DCaller) × ((List Int) × Bool × Unit)) :=
  optM x0 (none) fun p1 => bif (!(eqI x3.1 (2 : Int) && (eqI x3.2.1 (0 : Int) && (eqI x3.2.2.1 p1.1.2.1 && (eqI x3.2.2.2.1 p1.1.2.2.2.1 && (eqI x3.2.2.2.2.1 p1.1.2.2.2.2.1 && (eqS x3.2.2.2.2.2.1 x3.2.2.2.2.2.1 && true))))))) then (some ((some ((p1.1.1, p1.1.2.1, p1.1.2.2.1, p1.1.2.2.2.1, p1.1.2.2.2.2.1, p1.1.2.2.2.2.2.1, p1.1.2.2.2.2.2.2), p1.2.1, p1.2.2.1, p1.2.2.2.1, p1.2.2.2.2)), ([] : List Int), false, ()))
  else (some ((some ((p1.1.1, p1.1.2.1, p1.1.2.2.1, p1.1.2.2.2.1, p1.1.2.2.2.2.1, p1.1.2.2.2.2.2.1, p1.1.2.2.2.2.2.2), false, p1.2.2.1, p1.2.2.2.1, p1.2.2.2.2)), x3.2.2.2.2.2.1, true, ()))
theorem rpc_Caller_Take.s1 (n : Nat) (x0 : Option DCaller) (x3 : DPacket) : ev (rpc_Caller_Take.c1 n) [(0, some ⟨.opt TCaller, x0⟩), (3, some ⟨.box TPacket, x3⟩)] (⟨retK rpc_Caller_Take.rs rpc_Caller_Take.ps rpc_Caller_Take.r, []⟩ : Ks rpc_Caller_Take.R) (retK rpc_Caller_Take.rs rpc_Caller_Take.ps rpc_Caller_Take.r) = rpc_Caller_Take.j1 n x0 x3 := by kernel_rfl
noncomputable def rpc_Caller_Take.H1 (n : Nat) (X : XC) : St → Option rpc_Caller_Take.R := fun st => ghK [.coe 0 (.opt TCaller), .keep [0, 3]] st fun st => ev X st (⟨retK rpc_Caller_Take.rs rpc_Caller_Take.ps rpc_Caller_Take.r, []⟩ : Ks rpc_Caller_Take.R) (retK rpc_Caller_Take.rs rpc_Caller_Take.ps rpc_Caller_Take.r)
noncomputable abbrev rpc_Caller_Take.K1 (n : Nat) : St → Option rpc_Caller_Take.R := rpc_Caller_Take.H1 n (rpc_Caller_Take.c1 n)
noncomputable def rpc_Caller_Take.d (n : Nat) (X1 : XC) : XC :=
  (.seq (.reg (.op (.boxv 3 (.t 1)) none <| .op (.mv 4 (.c ⟨.str, (([] : List Int) : List Int)⟩)) none <| .op (.mv 5 (.c ⟨.bool, (false : Bool)⟩)) none <| .nil)) <|
  (.seq (.aft (.seq (.pre [.split 0 []] (.reg (.op (.bor 7 0) none <| .op (.call (some 8) (rpc_Caller_Busy.sp n) [.r 7]) none <| .op (.un 9 .not (.t 8)) none <| .op (.mv 10 (.t 9)) none <| .grp 10 false (.op (.ld 11 3 6 true) (some ([3, 10, 11], [11])) <| .op (.call (some 12) (frame_Right.sp n) [.v (.t 11)]) (some ([10, 11, 12], [12])) <| .op (.un 13 .not (.t 12)) (some ([10, 12, 13], [13])) <| .nil) 13 14 [11, 12, 13] <| .nil))) <|
  (.cond (.t 14)
  (.seq (.reg (.op (.mv 4 (.c ⟨.str, (([] : List Int) : List Int)⟩)) none <| .op (.mv 5 (.c ⟨.bool, (false : Bool)⟩)) none <| .nil)) <|
  .ret)
  .skip)) [.coe 0 (.opt TCaller), .keep [0, 3]]) X1))
noncomputable abbrev rpc_Caller_Take.c (n : Nat) : XC := rpc_Caller_Take.d n (rpc_Caller_Take.c1 n)
noncomputable def rpc_Caller_Take.f (n : Nat) (a0 : Option DCaller) (a1 : DPacket) : Option ((Option DCaller) × ((List Int) × Bool × Unit)) :=
  optM a0 ((rpc_Caller_Busy.f n none).bind fun r2 => (bif (!r2) then some true else ((frame_Right.f n (a1.1, a1.2.1, a1.2.2.1, a1.2.2.2.1, a1.2.2.2.2.1, a1.2.2.2.2.2.1, a1.2.2.2.2.2.2)).bind fun r4 => some (!r4))).bind fun g3 =>
  bif g3 then (some (none, ([] : List Int), false, ()))
  else (rpc_Caller_Take.j1 n none (a1.1, a1.2.1, a1.2.2.1, a1.2.2.2.1, a1.2.2.2.2.1, a1.2.2.2.2.2.1, a1.2.2.2.2.2.2))) fun p1 => (rpc_Caller_Busy.f n (some ((p1.1.1, p1.1.2.1, p1.1.2.2.1, p1.1.2.2.2.1, p1.1.2.2.2.2.1, p1.1.2.2.2.2.2.1, p1.1.2.2.2.2.2.2), p1.2.1, p1.2.2.1, p1.2.2.2.1, p1.2.2.2.2))).bind fun r5 => (bif (!r5) then some true else ((frame_Right.f n (a1.1, a1.2.1, a1.2.2.1, a1.2.2.2.1, a1.2.2.2.2.1, a1.2.2.2.2.2.1, a1.2.2.2.2.2.2)).bind fun r7 => some (!r7))).bind fun g6 =>
  bif g6 then (some ((some ((p1.1.1, p1.1.2.1, p1.1.2.2.1, p1.1.2.2.2.1, p1.1.2.2.2.2.1, p1.1.2.2.2.2.2.1, p1.1.2.2.2.2.2.2), p1.2.1, p1.2.2.1, p1.2.2.2.1, p1.2.2.2.2)), ([] : List Int), false, ()))
  else (rpc_Caller_Take.j1 n (some ((p1.1.1, p1.1.2.1, p1.1.2.2.1, p1.1.2.2.2.1, p1.1.2.2.2.2.1, p1.1.2.2.2.2.2.1, p1.1.2.2.2.2.2.2), p1.2.1, p1.2.2.1, p1.2.2.2.1, p1.2.2.2.2)) (a1.1, a1.2.1, a1.2.2.1, a1.2.2.2.1, a1.2.2.2.2.1, a1.2.2.2.2.2.1, a1.2.2.2.2.2.2))
theorem rpc_Caller_Take.w (n : Nat) (a0 : Option DCaller) (a1 : DPacket) (X1 : XC) : evFn (rpc_Caller_Take.d n X1) rpc_Caller_Take.rs rpc_Caller_Take.ps rpc_Caller_Take.r (a0, a1, ()) =
  (optM a0 ((rpc_Caller_Busy.f n none).bind fun r2 => (bif (!r2) then some true else ((frame_Right.f n (a1.1, a1.2.1, a1.2.2.1, a1.2.2.2.1, a1.2.2.2.2.1, a1.2.2.2.2.2.1, a1.2.2.2.2.2.2)).bind fun r4 => some (!r4))).bind fun g3 =>
  bif g3 then (some (none, ([] : List Int), false, ()))
  else (ev X1 [(0, some ⟨.opt TCaller, (none : Option DCaller)⟩), (3, some ⟨.box TPacket, ((a1.1, a1.2.1, a1.2.2.1, a1.2.2.2.1, a1.2.2.2.2.1, a1.2.2.2.2.2.1, a1.2.2.2.2.2.2) : DPacket)⟩)] (⟨retK rpc_Caller_Take.rs rpc_Caller_Take.ps rpc_Caller_Take.r, []⟩ : Ks rpc_Caller_Take.R) (retK rpc_Caller_Take.rs rpc_Caller_Take.ps rpc_Caller_Take.r))) fun p1 => (rpc_Caller_Busy.f n (some ((p1.1.1, p1.1.2.1, p1.1.2.2.1, p1.1.2.2.2.1, p1.1.2.2.2.2.1, p1.1.2.2.2.2.2.1, p1.1.2.2.2.2.2.2), p1.2.1, p1.2.2.1, p1.2.2.2.1, p1.2.2.2.2))).bind fun r5 => (bif (!r5) then some true else ((frame_Right.f n (a1.1, a1.2.1, a1.2.2.1, a1.2.2.2.1, a1.2.2.2.2.1, a1.2.2.2.2.2.1, a1.2.2.2.2.2.2)).bind fun r7 => some (!r7))).bind fun g6 =>
  bif g6 then (some ((some ((p1.1.1, p1.1.2.1, p1.1.2.2.1, p1.1.2.2.2.1, p1.1.2.2.2.2.1, p1.1.2.2.2.2.2.1, p1.1.2.2.2.2.2.2), p1.2.1, p1.2.2.1, p1.2.2.2.1, p1.2.2.2.2)), ([] : List Int), false, ()))
  else (ev X1 [(0, some ⟨.opt TCaller, ((some ((p1.1.1, p1.1.2.1, p1.1.2.2.1, p1.1.2.2.2.1, p1.1.2.2.2.2.1, p1.1.2.2.2.2.2.1, p1.1.2.2.2.2.2.2), p1.2.1, p1.2.2.1, p1.2.2.2.1, p1.2.2.2.2)) : Option DCaller)⟩), (3, some ⟨.box TPacket, ((a1.1, a1.2.1, a1.2.2.1, a1.2.2.2.1, a1.2.2.2.2.1, a1.2.2.2.2.2.1, a1.2.2.2.2.2.2) : DPacket)⟩)] (⟨retK rpc_Caller_Take.rs rpc_Caller_Take.ps rpc_Caller_Take.r, []⟩ : Ks rpc_Caller_Take.R) (retK rpc_Caller_Take.rs rpc_Caller_Take.ps rpc_Caller_Take.r)) : Option rpc_Caller_Take.R) := by kernel_rfl
theorem rpc_Caller_Take.ok (n : Nat) (a0 : Option DCaller) (a1 : DPacket) : evFn (rpc_Caller_Take.c n) rpc_Caller_Take.rs rpc_Caller_Take.ps rpc_Caller_Take.r (a0, a1, ()) = rpc_Caller_Take.f n a0 a1 := (rpc_Caller_Take.w n a0 a1 (rpc_Caller_Take.c1 n)).trans (by simp only [rpc_Caller_Take.f, rpc_Caller_Take.s1 n] <;> kernel_rfl)
noncomputable def rpc_Caller_Take.sp (n : Nat) : FSpec := { f := 22, ps := rpc_Caller_Take.ps, r := rpc_Caller_Take.r, run := fun x => rpc_Caller_Take.f n x.1 x.2.1 }
theorem rpc_Caller_Take.calls (n : Nat) : (rpc_Caller_Take.c n).calls = [rpc_Caller_Busy.sp n, frame_Right.sp n] := by kernel_rfl
theorem rpc_Caller_Take.fits (n : Nat) : fnB tab hd Try.f22 (rpc_Caller_Take.c n) rpc_Caller_Take.rs (rpc_Caller_Take.sp n).ps (rpc_Caller_Take.sp n).r = true := by kernel_rfl
theorem rpc_Caller_Take.sound (n : Nat) : Sound Try.prog (rpc_Caller_Take.sp n) := by
  refine fnB_sound tabOk eqFacts mixed (fn := Try.f22) (c := rpc_Caller_Take.c n) (rs := rpc_Caller_Take.rs) (by kernel_rfl) ?_ (rpc_Caller_Take.fits n) ?_
  · rw [rpc_Caller_Take.calls]
    intro s hs
    simp only [List.mem_cons, List.not_mem_nil, or_false] at hs
    rcases hs with rfl | rfl
    · exact rpc_Caller_Busy.meets n
    · exact frame_Right.meets n
  · rintro ⟨a0, a1, ⟨⟩⟩ y h
    exact (rpc_Caller_Take.ok n a0 a1).trans h
theorem rpc_Caller_Take.meets (n : Nat) : Meets Try.prog (rpc_Caller_Take.sp n) := (rpc_Caller_Take.sound n).meets
/-! backwater/backwaterlaw11.live -/
abbrev law11_live.ps : List (Ty × Bool) := []
abbrev law11_live.r : Ty := .bool
abbrev law11_live.rs : List RV := [.t 0]
abbrev law11_live.R : Type := (rtOf law11_live.ps law11_live.r).den
noncomputable def law11_live.d (n : Nat) : XC :=
  (.seq (.reg (.op (.mv 0 (.c ⟨.bool, (false : Bool)⟩)) none <| .nil)) <|
  (.seq (.reg (.op (.call (some 14) (rpc_NewCaller.sp n) [.v (.c ⟨.int .u8, ((1 : Int) : Int)⟩), .v (.c ⟨.int .u32, ((7 : Int) : Int)⟩)]) none <| .op (.call (some 15) (rpc_NewCallee.sp n) []) none <| .op (.take 1 14) none <| .op (.take 2 15) none <| .nil)) <|
  (.seq (.pre [.split 1 []] (.reg (.op (.bor 16 1) none <| .op (.call (some 17) (rpc_Caller_Call.sp n) [.l 16, .v (.c ⟨.str, (([120] : List Int) : List Int)⟩)]) none <| .op (.mv 3 (.t 17)) none <| .nil))) <|
  (.seq (.reg (.op (.bor 19 1) none <| .op (.call (some 20) (rpc_Caller_Tick.sp n) [.l 19, .v (.c ⟨.int .u64, ((0 : Int) : Int)⟩)]) none <| .op (.take 18 20) none <| .op (.ext 21 18 0) none <| .op (.ext 22 18 1) none <| .op (.alloc 4 ⟨TPacket, (((0 : Int), (0 : Int), (0 : Int), (0 : Int), (0 : Int), ([] : List Int), ()) : DPacket)⟩) none <| .op (.st 4 (.t 21) 6) none <| .op (.mv 5 (.t 22)) none <| .nil)) <|
  (.seq (.reg (.op (.bor 24 2) none <| .op (.ld 25 4 6 true) none <| .op (.call (some 26) (rpc_Callee_Take.sp n) [.l 24, .v (.t 25)]) none <| .op (.take 23 26) none <| .op (.ext 27 23 0) none <| .op (.ext 28 23 1) none <| .op (.ext 29 23 2) none <| .op (.ext 30 23 3) none <| .op (.alloc 8 ⟨TPacket, (((0 : Int), (0 : Int), (0 : Int), (0 : Int), (0 : Int), ([] : List Int), ()) : DPacket)⟩) none <| .op (.mv 6 (.t 27)) none <| .op (.mv 7 (.t 28)) none <| .op (.st 8 (.t 29) 6) none <| .op (.mv 9 (.t 30)) none <| .nil)) <|
  (.seq (.pre [.keep [1, 2, 3, 5, 6, 7]] (.reg (.op (.bor 32 2) none <| .op (.mv 33 (.t 6)) none <| .op (.bin 34 .add (.t 33) (.c ⟨.str, (([121] : List Int) : List Int)⟩)) none <| .op (.call (some 35) (rpc_Callee_Reply.sp n) [.l 32, .v (.c ⟨.int .u8, ((1 : Int) : Int)⟩), .v (.t 34)]) none <| .op (.take 31 35) none <| .op (.ext 36 31 0) none <| .op (.ext 37 31 1) none <| .op (.alloc 10 ⟨TPacket, (((0 : Int), (0 : Int), (0 : Int), (0 : Int), (0 : Int), ([] : List Int), ()) : DPacket)⟩) none <| .op (.st 10 (.t 36) 6) none <| .op (.mv 11 (.t 37)) none <| .nil))) <|
  (.seq (.reg (.op (.bor 39 1) none <| .op (.ld 40 10 6 true) none <| .op (.call (some 41) (rpc_Caller_Take.sp n) [.l 39, .v (.t 40)]) none <| .op (.take 38 41) none <| .op (.ext 42 38 0) none <| .op (.ext 43 38 1) none <| .op (.mv 12 (.t 42)) none <| .op (.mv 13 (.t 43)) none <| .nil)) <|
  (.seq (.pre [.keep [1, 3, 5, 6, 7, 11, 12, 13]] (.reg (.op (.mv 44 (.t 3)) none <| .op (.bin 45 .eql (.t 44) (.c ⟨.int .i64, ((0 : Int) : Int)⟩)) none <| .op (.mv 46 (.t 45)) none <| .grp 46 true (.op (.mv 47 (.t 5)) (some ([5, 46, 47], [47])) <| .nil) 47 48 [47] <| .op (.mv 49 (.t 48)) none <| .grp 49 true (.op (.mv 50 (.t 7)) (some ([7, 49, 50], [50])) <| .nil) 50 51 [50] <| .op (.mv 52 (.t 51)) none <| .grp 52 true (.op (.mv 53 (.t 6)) (some ([6, 52, 53], [53])) <| .op (.bin 54 .eql (.t 53) (.c ⟨.str, (([120] : List Int) : List Int)⟩)) (some ([52, 53, 54], [54])) <| .nil) 54 55 [53, 54] <| .op (.mv 56 (.t 55)) none <| .grp 56 true (.op (.mv 57 (.t 11)) (some ([11, 56, 57], [57])) <| .op (.bin 58 .eql (.t 57) (.c ⟨.int .i64, ((0 : Int) : Int)⟩)) (some ([56, 57, 58], [58])) <| .nil) 58 59 [57, 58] <| .op (.mv 60 (.t 59)) none <| .grp 60 true (.op (.mv 61 (.t 13)) (some ([13, 60, 61], [61])) <| .nil) 61 62 [61] <| .op (.mv 63 (.t 62)) none <| .grp 63 true (.op (.mv 64 (.t 12)) (some ([12, 63, 64], [64])) <| .op (.bin 65 .eql (.t 64) (.c ⟨.str, (([120, 121] : List Int) : List Int)⟩)) (some ([63, 64, 65], [65])) <| .nil) 65 66 [64, 65] <| .op (.mv 67 (.t 66)) none <| .grp 67 true (.op (.bor 68 1) (some ([1, 67, 68], [68])) <| .op (.call (some 69) (rpc_Caller_Busy.sp n) [.r 68]) (some ([1, 67, 68, 69], [69])) <| .op (.un 70 .not (.t 69)) (some ([67, 69, 70], [70])) <| .nil) 70 71 [68, 69, 70] <| .op (.mv 0 (.t 71)) none <| .nil))) <|
  .ret))))))))
noncomputable abbrev law11_live.c (n : Nat) : XC := law11_live.d n
noncomputable def law11_live.f (n : Nat)  : Option Bool :=
  (rpc_NewCaller.f n (1 : Int) (7 : Int)).bind fun r1 => (rpc_NewCallee.f n).bind fun r2 => optM r1 ((rpc_Caller_Call.f n none ([120] : List Int)).bind fun r4 => (rpc_Caller_Tick.f n none (0 : Int)).bind fun r5 => (rpc_Callee_Take.f n (some (r2.1, r2.2)) (r5.2.1.1, r5.2.1.2.1, r5.2.1.2.2.1, r5.2.1.2.2.2.1, r5.2.1.2.2.2.2.1, r5.2.1.2.2.2.2.2.1, r5.2.1.2.2.2.2.2.2)).bind fun r6 => (r6.1).bind fun p7 => leK (r6.2.1.length + ([121] : List Int).length) maxLen ((rpc_Callee_Reply.f n (some (p7.1, p7.2)) (1 : Int) (r6.2.1 ++ ([121] : List Int))).bind fun r8 => (r8.1).bind fun p9 => (rpc_Caller_Take.f n none (r8.2.1.1, r8.2.1.2.1, r8.2.1.2.2.1, r8.2.1.2.2.2.1, r8.2.1.2.2.2.2.1, r8.2.1.2.2.2.2.2.1, r8.2.1.2.2.2.2.2.2)).bind fun r10 => (bif (decide (r4.2 = (0 : Int))) then (some r5.2.2.1) else some false).bind fun g11 =>
  (bif g11 then (some r6.2.2.1) else some false).bind fun g12 =>
  (bif g12 then (some (decide (r6.2.1 = ([120] : List Int)))) else some false).bind fun g13 =>
  (bif g13 then (some (decide (r8.2.2.1 = (0 : Int)))) else some false).bind fun g14 =>
  (bif g14 then (some r10.2.2.1) else some false).bind fun g15 =>
  (bif g15 then (some (decide (r10.2.1 = ([120, 121] : List Int)))) else some false).bind fun g16 =>
  (bif g16 then ((rpc_Caller_Busy.f n none).bind fun r18 => some (!r18)) else some false).bind fun g17 =>
  some g17)) fun p3 => (rpc_Caller_Call.f n (some ((p3.1.1, p3.1.2.1, p3.1.2.2.1, p3.1.2.2.2.1, p3.1.2.2.2.2.1, p3.1.2.2.2.2.2.1, p3.1.2.2.2.2.2.2), p3.2.1, p3.2.2.1, p3.2.2.2.1, p3.2.2.2.2)) ([120] : List Int)).bind fun r19 => (r19.1).bind fun p20 => (rpc_Caller_Tick.f n (some ((p20.1.1, p20.1.2.1, p20.1.2.2.1, p20.1.2.2.2.1, p20.1.2.2.2.2.1, p20.1.2.2.2.2.2.1, p20.1.2.2.2.2.2.2), p20.2.1, p20.2.2.1, p20.2.2.2.1, p20.2.2.2.2)) (0 : Int)).bind fun r21 => (r21.1).bind fun p22 => (rpc_Callee_Take.f n (some (r2.1, r2.2)) (r21.2.1.1, r21.2.1.2.1, r21.2.1.2.2.1, r21.2.1.2.2.2.1, r21.2.1.2.2.2.2.1, r21.2.1.2.2.2.2.2.1, r21.2.1.2.2.2.2.2.2)).bind fun r23 => (r23.1).bind fun p24 => leK (r23.2.1.length + ([121] : List Int).length) maxLen ((rpc_Callee_Reply.f n (some (p24.1, p24.2)) (1 : Int) (r23.2.1 ++ ([121] : List Int))).bind fun r25 => (r25.1).bind fun p26 => (rpc_Caller_Take.f n (some ((p22.1.1, p22.1.2.1, p22.1.2.2.1, p22.1.2.2.2.1, p22.1.2.2.2.2.1, p22.1.2.2.2.2.2.1, p22.1.2.2.2.2.2.2), p22.2.1, p22.2.2.1, p22.2.2.2.1, p22.2.2.2.2)) (r25.2.1.1, r25.2.1.2.1, r25.2.1.2.2.1, r25.2.1.2.2.2.1, r25.2.1.2.2.2.2.1, r25.2.1.2.2.2.2.2.1, r25.2.1.2.2.2.2.2.2)).bind fun r27 => (r27.1).bind fun p28 => (bif (decide (r19.2 = (0 : Int))) then (some r21.2.2.1) else some false).bind fun g29 =>
  (bif g29 then (some r23.2.2.1) else some false).bind fun g30 =>
  (bif g30 then (some (decide (r23.2.1 = ([120] : List Int)))) else some false).bind fun g31 =>
  (bif g31 then (some (decide (r25.2.2.1 = (0 : Int)))) else some false).bind fun g32 =>
  (bif g32 then (some r27.2.2.1) else some false).bind fun g33 =>
  (bif g33 then (some (decide (r27.2.1 = ([120, 121] : List Int)))) else some false).bind fun g34 =>
  (bif g34 then ((rpc_Caller_Busy.f n (some ((p28.1.1, p28.1.2.1, p28.1.2.2.1, p28.1.2.2.2.1, p28.1.2.2.2.2.1, p28.1.2.2.2.2.2.1, p28.1.2.2.2.2.2.2), p28.2.1, p28.2.2.1, p28.2.2.2.1, p28.2.2.2.2))).bind fun r36 => some (!r36)) else some false).bind fun g35 =>
  some g35)
theorem law11_live.ok (n : Nat)  : evFn (law11_live.c n) law11_live.rs law11_live.ps law11_live.r () = law11_live.f n  := by kernel_rfl
noncomputable def law11_live.sp (n : Nat) : FSpec := { f := 13, ps := law11_live.ps, r := law11_live.r, run := fun x => law11_live.f n  }
theorem law11_live.calls (n : Nat) : (law11_live.c n).calls = [rpc_NewCaller.sp n, rpc_NewCallee.sp n, rpc_Caller_Call.sp n, rpc_Caller_Tick.sp n, rpc_Callee_Take.sp n, rpc_Callee_Reply.sp n, rpc_Caller_Take.sp n, rpc_Caller_Busy.sp n] := by kernel_rfl
theorem law11_live.fits (n : Nat) : fnB tab hd Try.f13 (law11_live.c n) law11_live.rs (law11_live.sp n).ps (law11_live.sp n).r = true := by kernel_rfl
theorem law11_live.sound (n : Nat) : Sound Try.prog (law11_live.sp n) := by
  refine fnB_sound tabOk eqFacts mixed (fn := Try.f13) (c := law11_live.c n) (rs := law11_live.rs) (by kernel_rfl) ?_ (law11_live.fits n) ?_
  · rw [law11_live.calls]
    intro s hs
    simp only [List.mem_cons, List.not_mem_nil, or_false] at hs
    rcases hs with rfl | rfl | rfl | rfl | rfl | rfl | rfl | rfl
    · exact rpc_NewCaller.meets n
    · exact rpc_NewCallee.meets n
    · exact rpc_Caller_Call.meets n
    · exact rpc_Caller_Tick.meets n
    · exact rpc_Callee_Take.meets n
    · exact rpc_Callee_Reply.meets n
    · exact rpc_Caller_Take.meets n
    · exact rpc_Caller_Busy.meets n
  · rintro ⟨⟩ y h
    exact (law11_live.ok n ).trans h
theorem law11_live.meets (n : Nat) : Meets Try.prog (law11_live.sp n) := (law11_live.sound n).meets
/-! backwater/backwaterlaw11.RpcOnce -/
abbrev law11_RpcOnce.ps : List (Ty × Bool) := [(.slB .U false .str, false), (.slB .U false (.int .u8), false)]
abbrev law11_RpcOnce.r : Ty := .bool
abbrev law11_RpcOnce.rs : List RV := [.t 4]
abbrev law11_RpcOnce.R : Type := (rtOf law11_RpcOnce.ps law11_RpcOnce.r).den
noncomputable def law11_RpcOnce.d3 (n : Nat) : XC :=
  (.seq (.reg (.op (.call (some 138) (law11_live.sp n) []) none <| .op (.mv 4 (.t 138)) none <| .nil)) <|
  .ret)
noncomputable abbrev law11_RpcOnce.c3 (n : Nat) : XC := law11_RpcOnce.d3 n
noncomputable def law11_RpcOnce.j3 (n : Nat)  : Option Bool :=
  (law11_live.f n).bind fun r1 => some r1
theorem law11_RpcOnce.s3 (n : Nat)  : ev (law11_RpcOnce.c3 n) [] (⟨retK law11_RpcOnce.rs law11_RpcOnce.ps law11_RpcOnce.r, []⟩ : Ks law11_RpcOnce.R) (retK law11_RpcOnce.rs law11_RpcOnce.ps law11_RpcOnce.r) = law11_RpcOnce.j3 n  := by kernel_rfl
noncomputable def law11_RpcOnce.H3 (n : Nat) (X : XC) : St → Option law11_RpcOnce.R := fun st => ghK [.keep []] st fun st => ev X st (⟨retK law11_RpcOnce.rs law11_RpcOnce.ps law11_RpcOnce.r, []⟩ : Ks law11_RpcOnce.R) (retK law11_RpcOnce.rs law11_RpcOnce.ps law11_RpcOnce.r)
noncomputable abbrev law11_RpcOnce.K3 (n : Nat) : St → Option law11_RpcOnce.R := law11_RpcOnce.H3 n (law11_RpcOnce.c3 n)
noncomputable def law11_RpcOnce.Kb4 (Kr4 : St → Option law11_RpcOnce.R) : St → Option law11_RpcOnce.R := fun st => ghK [.keep [11, 18]] st Kr4
noncomputable def law11_RpcOnce.d5 (n : Nat) : XC :=
  (.aft (.reg (.op (.mv 131 (.t 18)) none <| .op (.bin 132 .add (.t 131) (.c ⟨.int .i64, ((1 : Int) : Int)⟩)) none <| .op (.mv 18 (.t 132)) none <| .nil)) [.keep [11, 18]])
noncomputable abbrev law11_RpcOnce.c5 (n : Nat) : XC := law11_RpcOnce.d5 n
theorem law11_RpcOnce.qb4_0 (Kr4 : St → Option law11_RpcOnce.R) (kr4 : (List Int) → Int → Option Bool) (hK4 : ∀ (x11 : List Int) (x18 : Int), Kr4 [(11, some ⟨.slX .S (.int .i64), x11⟩), (18, some ⟨.int .i64, x18⟩)] = kr4 x11 x18) (x11 : List Int) (x18 : Int) : law11_RpcOnce.Kb4 Kr4 [(11, some ⟨.slX .S (.int .i64), x11⟩), (18, some ⟨.int .i64, x18⟩)] = kr4 x11 x18 := (by kernel_rfl : _ = Kr4 [(11, some ⟨.slX .S (.int .i64), x11⟩), (18, some ⟨.int .i64, x18⟩)]).trans (hK4 x11 x18)
noncomputable def law11_RpcOnce.j5 (n : Nat) (kr4 : (List Int) → Int → Option Bool) (x11 : List Int) (x18 : Int) : Option Bool :=
  kr4 x11 (IntKind.i64.wrap (x18 + (1 : Int)))
theorem law11_RpcOnce.w5 (n : Nat) (Kr4 : St → Option law11_RpcOnce.R) (x11 : List Int) (x18 : Int) (K3 : St → Option law11_RpcOnce.R) (Kb4 : St → Option law11_RpcOnce.R) : ev (law11_RpcOnce.d5 n) [(11, some ⟨.slX .S (.int .i64), x11⟩), (18, some ⟨.int .i64, x18⟩)] (⟨retK law11_RpcOnce.rs law11_RpcOnce.ps law11_RpcOnce.r, [(4, K3)]⟩ : Ks law11_RpcOnce.R) Kb4 =
  (Kb4 [(11, some ⟨.slX .S (.int .i64), x11⟩), (18, some ⟨.int .i64, (IntKind.i64.wrap (x18 + (1 : Int)))⟩)] : Option law11_RpcOnce.R) := by kernel_rfl
theorem law11_RpcOnce.s5 (n : Nat) (Kr4 : St → Option law11_RpcOnce.R) (kr4 : (List Int) → Int → Option Bool) (hK4 : ∀ (x11 : List Int) (x18 : Int), Kr4 [(11, some ⟨.slX .S (.int .i64), x11⟩), (18, some ⟨.int .i64, x18⟩)] = kr4 x11 x18) (x11 : List Int) (x18 : Int) : ev (law11_RpcOnce.c5 n) [(11, some ⟨.slX .S (.int .i64), x11⟩), (18, some ⟨.int .i64, x18⟩)] (⟨retK law11_RpcOnce.rs law11_RpcOnce.ps law11_RpcOnce.r, [(4, (law11_RpcOnce.K3 n))]⟩ : Ks law11_RpcOnce.R) (law11_RpcOnce.Kb4 Kr4) = law11_RpcOnce.j5 n kr4 x11 x18 := (law11_RpcOnce.w5 n Kr4 x11 x18 (law11_RpcOnce.K3 n) (law11_RpcOnce.Kb4 Kr4)).trans (by simp only [law11_RpcOnce.j5, law11_RpcOnce.qb4_0 Kr4 kr4 hK4] <;> kernel_rfl)
noncomputable def law11_RpcOnce.H5 (n : Nat) (K3 : St → Option law11_RpcOnce.R) (Kb4 : St → Option law11_RpcOnce.R) (X : XC) : St → Option law11_RpcOnce.R := fun st => ghK [.keep [11, 18]] st fun st => ev X st (⟨retK law11_RpcOnce.rs law11_RpcOnce.ps law11_RpcOnce.r, [(4, K3)]⟩ : Ks law11_RpcOnce.R) Kb4
noncomputable abbrev law11_RpcOnce.K5 (n : Nat) (Kr4 : St → Option law11_RpcOnce.R) : St → Option law11_RpcOnce.R := law11_RpcOnce.H5 n (law11_RpcOnce.K3 n) (law11_RpcOnce.Kb4 Kr4) (law11_RpcOnce.c5 n)
noncomputable def law11_RpcOnce.db4 (n : Nat) (X5 : XC) : XC :=
  (.aft (.seq (.seq (.reg (.op (.mv 127 (.t 18)) none <| .op (.bor 128 11) none <| .op (.len 129 (.t 128) false) none <| .op (.bin 130 .lss (.t 127) (.t 129)) none <| .nil)) <|
  (.cond (.t 130)
  .skip
  (.pre [.keep []] (.exit 4)))) <|
  (.seq (.aft (.block 5 (.seq (.reg (.op (.bor 133 11) none <| .op (.mv 134 (.t 18)) none <| .op (.idxA 135 (.t 133) (.t 134) 1 0) none <| .op (.ld 136 135 1 false) none <| .op (.bin 137 .gtr (.t 136) (.c ⟨.int .i64, ((1 : Int) : Int)⟩)) none <| .nil)) <|
  (.cond (.t 137)
  (.seq (.pre [.keep []] (.reg (.op (.mv 4 (.c ⟨.bool, (false : Bool)⟩)) none <| .nil))) <|
  .ret)
  .skip))) [.keep [11, 18]]) X5)) [.keep [11, 18]])
noncomputable abbrev law11_RpcOnce.cb4 (n : Nat) : XC := law11_RpcOnce.db4 n (law11_RpcOnce.c5 n)
theorem law11_RpcOnce.q3_0_r (n : Nat) (X : XC)  : law11_RpcOnce.H3 n X [] = (ev X [] (⟨retK law11_RpcOnce.rs law11_RpcOnce.ps law11_RpcOnce.r, []⟩ : Ks law11_RpcOnce.R) (retK law11_RpcOnce.rs law11_RpcOnce.ps law11_RpcOnce.r) : Option law11_RpcOnce.R) := by kernel_rfl
theorem law11_RpcOnce.q3_0 (n : Nat)  : law11_RpcOnce.K3 n [] = law11_RpcOnce.j3 n  := (law11_RpcOnce.q3_0_r n (law11_RpcOnce.c3 n) ).trans (law11_RpcOnce.s3 n )
noncomputable def law11_RpcOnce.l4 (n : Nat) : Nat → (List Int) → Int → Option Bool
  | 0, _, _ => none
  | k + 1, x11, x18 =>
  bif (decide (x18 < (x11.length : Int))) then (idxK x11 x18 fun e1 => bif (decide ((1 : Int) < e1)) then (some false)
  else (law11_RpcOnce.j5 n (law11_RpcOnce.l4 n k) x11 x18))
  else (law11_RpcOnce.j3 n )
theorem law11_RpcOnce.wb4 (n : Nat) (Kr4 : St → Option law11_RpcOnce.R) (x11 : List Int) (x18 : Int) (K3 : St → Option law11_RpcOnce.R) (X5 : XC) : ev (law11_RpcOnce.db4 n X5) (keepSt [(11, some ⟨.slX .S (.int .i64), x11⟩), (18, some ⟨.int .i64, x18⟩)] [11, 18]) (⟨retK law11_RpcOnce.rs law11_RpcOnce.ps law11_RpcOnce.r, [(4, K3)]⟩ : Ks law11_RpcOnce.R) Kr4 =
  (bif (decide (x18 < (x11.length : Int))) then (idxK x11 x18 fun e1 => bif (decide ((1 : Int) < e1)) then (some false)
  else (ev X5 [(11, some ⟨.slX .S (.int .i64), x11⟩), (18, some ⟨.int .i64, x18⟩)] (⟨retK law11_RpcOnce.rs law11_RpcOnce.ps law11_RpcOnce.r, [(4, K3)]⟩ : Ks law11_RpcOnce.R) (law11_RpcOnce.Kb4 Kr4)))
  else (K3 []) : Option law11_RpcOnce.R) := by kernel_rfl
theorem law11_RpcOnce.l4_ok (n : Nat) (k : Nat) : ∀ (x11 : List Int) (x18 : Int), loopEv [11, 18] (fun s K => ev (law11_RpcOnce.cb4 n) s (⟨retK law11_RpcOnce.rs law11_RpcOnce.ps law11_RpcOnce.r, [(4, (law11_RpcOnce.K3 n))]⟩ : Ks law11_RpcOnce.R) K) k [(11, some ⟨.slX .S (.int .i64), x11⟩), (18, some ⟨.int .i64, x18⟩)] = law11_RpcOnce.l4 n k x11 x18 := by
  induction k with
  | zero => intros; rfl
  | succ k ih =>
    intro x11 x18
    exact (law11_RpcOnce.wb4 n (fun st => loopEv [11, 18] (fun s K => ev (law11_RpcOnce.cb4 n) s (⟨retK law11_RpcOnce.rs law11_RpcOnce.ps law11_RpcOnce.r, [(4, (law11_RpcOnce.K3 n))]⟩ : Ks law11_RpcOnce.R) K) k st) x11 x18 (law11_RpcOnce.K3 n) (law11_RpcOnce.c5 n)).trans (by simp only [law11_RpcOnce.l4, law11_RpcOnce.s5 n (fun st => loopEv [11, 18] (fun s K => ev (law11_RpcOnce.cb4 n) s (⟨retK law11_RpcOnce.rs law11_RpcOnce.ps law11_RpcOnce.r, [(4, (law11_RpcOnce.K3 n))]⟩ : Ks law11_RpcOnce.R) K) k st) (law11_RpcOnce.l4 n k) ih, law11_RpcOnce.q3_0 n] <;> kernel_rfl)
noncomputable def law11_RpcOnce.d2 (n : Nat) (X3 Y4 : XC) : XC :=
  (.seq (.aft (.seq (.reg (.op (.mv 18 (.c ⟨.int .i64, ((0 : Int) : Int)⟩)) none <| .nil)) <|
  (.block 4 (.pre [.keep [11, 18]] (.loop n [11, 18] Y4)))) [.keep []]) X3)
noncomputable abbrev law11_RpcOnce.c2 (n : Nat) : XC := law11_RpcOnce.d2 n (law11_RpcOnce.c3 n) (law11_RpcOnce.cb4 n)
noncomputable def law11_RpcOnce.j2 (n : Nat) (x11 : List Int) : Option Bool :=
  law11_RpcOnce.l4 n n x11 (0 : Int)
theorem law11_RpcOnce.w2 (n : Nat) (x11 : List Int) (X3 Y4 : XC) : ev (law11_RpcOnce.d2 n X3 Y4) [(11, some ⟨.slX .S (.int .i64), x11⟩)] (⟨retK law11_RpcOnce.rs law11_RpcOnce.ps law11_RpcOnce.r, []⟩ : Ks law11_RpcOnce.R) (retK law11_RpcOnce.rs law11_RpcOnce.ps law11_RpcOnce.r) =
  (loopEv [11, 18] (fun s K => ev Y4 s (⟨retK law11_RpcOnce.rs law11_RpcOnce.ps law11_RpcOnce.r, [(4, (law11_RpcOnce.H3 n X3))]⟩ : Ks law11_RpcOnce.R) K) n [(11, some ⟨.slX .S (.int .i64), x11⟩), (18, some ⟨.int .i64, (0 : Int)⟩)] : Option law11_RpcOnce.R) := by kernel_rfl
theorem law11_RpcOnce.s2 (n : Nat) (x11 : List Int) : ev (law11_RpcOnce.c2 n) [(11, some ⟨.slX .S (.int .i64), x11⟩)] (⟨retK law11_RpcOnce.rs law11_RpcOnce.ps law11_RpcOnce.r, []⟩ : Ks law11_RpcOnce.R) (retK law11_RpcOnce.rs law11_RpcOnce.ps law11_RpcOnce.r) = law11_RpcOnce.j2 n x11 := (law11_RpcOnce.w2 n x11 (law11_RpcOnce.c3 n) (law11_RpcOnce.cb4 n)).trans (by simp only [law11_RpcOnce.j2, law11_RpcOnce.l4_ok n] <;> kernel_rfl)
noncomputable def law11_RpcOnce.H2 (n : Nat) (X : XC) : St → Option law11_RpcOnce.R := fun st => ghK [.keep [11]] st fun st => ev X st (⟨retK law11_RpcOnce.rs law11_RpcOnce.ps law11_RpcOnce.r, []⟩ : Ks law11_RpcOnce.R) (retK law11_RpcOnce.rs law11_RpcOnce.ps law11_RpcOnce.r)
noncomputable abbrev law11_RpcOnce.K2 (n : Nat) : St → Option law11_RpcOnce.R := law11_RpcOnce.H2 n (law11_RpcOnce.c2 n)
noncomputable def law11_RpcOnce.Kb6 (Kr6 : St → Option law11_RpcOnce.R) : St → Option law11_RpcOnce.R := fun st => ghK [.keep [1, 6, 7, 11, 12]] st Kr6
noncomputable def law11_RpcOnce.d7 (n : Nat) : XC :=
  (.aft (.reg (.op (.mv 71 (.t 12)) none <| .op (.bin 72 .add (.t 71) (.c ⟨.int .i64, ((1 : Int) : Int)⟩)) none <| .op (.mv 12 (.t 72)) none <| .nil)) [.keep [1, 6, 7, 11, 12]])
noncomputable abbrev law11_RpcOnce.c7 (n : Nat) : XC := law11_RpcOnce.d7 n
theorem law11_RpcOnce.qb6_0 (Kr6 : St → Option law11_RpcOnce.R) (kr6 : (List Int) → DCallee → (List DPacket) → (List Int) → Int → Option Bool) (hK6 : ∀ (x1 : List Int) (x6 : DCallee) (x7 : List DPacket) (x11 : List Int) (x12 : Int), Kr6 [(1, some ⟨.slB .U false (.int .u8), x1⟩), (6, some ⟨.box TCallee, x6⟩), (7, some ⟨.slX .N TPacket, x7⟩), (11, some ⟨.slX .S (.int .i64), x11⟩), (12, some ⟨.int .i64, x12⟩)] = kr6 x1 x6 x7 x11 x12) (x1 : List Int) (x6 : DCallee) (x7 : List DPacket) (x11 : List Int) (x12 : Int) : law11_RpcOnce.Kb6 Kr6 [(1, some ⟨.slB .U false (.int .u8), x1⟩), (6, some ⟨.box TCallee, x6⟩), (7, some ⟨.slX .N TPacket, x7⟩), (11, some ⟨.slX .S (.int .i64), x11⟩), (12, some ⟨.int .i64, x12⟩)] = kr6 x1 (x6.1, x6.2) x7 x11 x12 := (by kernel_rfl : _ = Kr6 [(1, some ⟨.slB .U false (.int .u8), x1⟩), (6, some ⟨.box TCallee, ((x6.1, x6.2) : DCallee)⟩), (7, some ⟨.slX .N TPacket, x7⟩), (11, some ⟨.slX .S (.int .i64), x11⟩), (12, some ⟨.int .i64, x12⟩)]).trans (hK6 x1 (x6.1, x6.2) x7 x11 x12)
noncomputable def law11_RpcOnce.j7 (n : Nat) (kr6 : (List Int) → DCallee → (List DPacket) → (List Int) → Int → Option Bool) (x1 : List Int) (x6 : DCallee) (x7 : List DPacket) (x11 : List Int) (x12 : Int) : Option Bool :=
  kr6 x1 (x6.1, x6.2) x7 x11 (IntKind.i64.wrap (x12 + (1 : Int)))
theorem law11_RpcOnce.w7 (n : Nat) (Kr6 : St → Option law11_RpcOnce.R) (x1 : List Int) (x6 : DCallee) (x7 : List DPacket) (x11 : List Int) (x12 : Int) (K2 : St → Option law11_RpcOnce.R) (Kb6 : St → Option law11_RpcOnce.R) : ev (law11_RpcOnce.d7 n) [(1, some ⟨.slB .U false (.int .u8), x1⟩), (6, some ⟨.box TCallee, x6⟩), (7, some ⟨.slX .N TPacket, x7⟩), (11, some ⟨.slX .S (.int .i64), x11⟩), (12, some ⟨.int .i64, x12⟩)] (⟨retK law11_RpcOnce.rs law11_RpcOnce.ps law11_RpcOnce.r, [(2, K2)]⟩ : Ks law11_RpcOnce.R) Kb6 =
  (Kb6 [(1, some ⟨.slB .U false (.int .u8), x1⟩), (6, some ⟨.box TCallee, x6⟩), (7, some ⟨.slX .N TPacket, x7⟩), (11, some ⟨.slX .S (.int .i64), x11⟩), (12, some ⟨.int .i64, (IntKind.i64.wrap (x12 + (1 : Int)))⟩)] : Option law11_RpcOnce.R) := by kernel_rfl
theorem law11_RpcOnce.s7 (n : Nat) (Kr6 : St → Option law11_RpcOnce.R) (kr6 : (List Int) → DCallee → (List DPacket) → (List Int) → Int → Option Bool) (hK6 : ∀ (x1 : List Int) (x6 : DCallee) (x7 : List DPacket) (x11 : List Int) (x12 : Int), Kr6 [(1, some ⟨.slB .U false (.int .u8), x1⟩), (6, some ⟨.box TCallee, x6⟩), (7, some ⟨.slX .N TPacket, x7⟩), (11, some ⟨.slX .S (.int .i64), x11⟩), (12, some ⟨.int .i64, x12⟩)] = kr6 x1 x6 x7 x11 x12) (x1 : List Int) (x6 : DCallee) (x7 : List DPacket) (x11 : List Int) (x12 : Int) : ev (law11_RpcOnce.c7 n) [(1, some ⟨.slB .U false (.int .u8), x1⟩), (6, some ⟨.box TCallee, x6⟩), (7, some ⟨.slX .N TPacket, x7⟩), (11, some ⟨.slX .S (.int .i64), x11⟩), (12, some ⟨.int .i64, x12⟩)] (⟨retK law11_RpcOnce.rs law11_RpcOnce.ps law11_RpcOnce.r, [(2, (law11_RpcOnce.K2 n))]⟩ : Ks law11_RpcOnce.R) (law11_RpcOnce.Kb6 Kr6) = law11_RpcOnce.j7 n kr6 x1 x6 x7 x11 x12 := (law11_RpcOnce.w7 n Kr6 x1 x6 x7 x11 x12 (law11_RpcOnce.K2 n) (law11_RpcOnce.Kb6 Kr6)).trans (by simp only [law11_RpcOnce.j7, law11_RpcOnce.qb6_0 Kr6 kr6 hK6] <;> kernel_rfl)
noncomputable def law11_RpcOnce.H7 (n : Nat) (K2 : St → Option law11_RpcOnce.R) (Kb6 : St → Option law11_RpcOnce.R) (X : XC) : St → Option law11_RpcOnce.R := fun st => ghK [.keep [1, 6, 7, 11, 12]] st fun st => ev X st (⟨retK law11_RpcOnce.rs law11_RpcOnce.ps law11_RpcOnce.r, [(2, K2)]⟩ : Ks law11_RpcOnce.R) Kb6
noncomputable abbrev law11_RpcOnce.K7 (n : Nat) (Kr6 : St → Option law11_RpcOnce.R) : St → Option law11_RpcOnce.R := law11_RpcOnce.H7 n (law11_RpcOnce.K2 n) (law11_RpcOnce.Kb6 Kr6) (law11_RpcOnce.c7 n)
noncomputable def law11_RpcOnce.db6 (n : Nat) (X7 : XC) : XC :=
  (.aft (.seq (.seq (.reg (.op (.mv 58 (.t 12)) none <| .op (.mv 59 (.t 1)) none <| .op (.len 60 (.t 59) false) none <| .op (.bin 61 .lss (.t 58) (.t 60)) none <| .op (.mv 62 (.t 61)) none <| .grp 62 true (.op (.mv 63 (.t 12)) (some ([12, 62, 63], [63])) <| .op (.bin 64 .lss (.t 63) (.c ⟨.int .i64, ((60 : Int) : Int)⟩)) (some ([62, 63, 64], [64])) <| .nil) 64 65 [63, 64] <| .op (.mv 66 (.t 65)) none <| .grp 66 true (.op (.bor 67 7) (some ([7, 66, 67], [67])) <| .op (.len 68 (.t 67) false) (some ([7, 66, 67, 68], [68])) <| .op (.bin 69 .gtr (.t 68) (.c ⟨.int .i64, ((0 : Int) : Int)⟩)) (some ([66, 68, 69], [69])) <| .nil) 69 70 [67, 68, 69] <| .nil)) <|
  (.cond (.t 70)
  .skip
  (.pre [.keep [11]] (.exit 2)))) <|
  (.seq (.aft (.block 3 (.seq (.reg (.op (.bor 73 7) none <| .op (.mv 74 (.t 1)) none <| .op (.mv 75 (.t 12)) none <| .op (.idxA 76 (.t 74) (.t 75) 1 0) none <| .op (.ld 77 76 1 false) none <| .op (.cvt 78 (.int .i64) (.t 77)) none <| .op (.bor 79 7) none <| .op (.len 80 (.t 79) false) none <| .op (.bin 81 .rem (.t 78) (.t 80)) none <| .op (.idxA 82 (.t 73) (.t 81) 6 0) none <| .op (.ld 83 82 6 true) none <| .op (.alloc 13 ⟨TPacket, (((0 : Int), (0 : Int), (0 : Int), (0 : Int), (0 : Int), ([] : List Int), ()) : DPacket)⟩) none <| .op (.st 13 (.t 83) 6) none <| .nil)) <|
  (.seq (.pre [.keep [1, 6, 7, 11, 12, 13]] (.reg (.op (.bor 85 6) none <| .op (.ld 86 13 6 true) none <| .op (.call (some 87) (rpc_Callee_Take.sp n) [.l 85, .v (.t 86)]) none <| .op (.take 84 87) none <| .op (.ext 88 84 0) none <| .op (.ext 89 84 1) none <| .op (.ext 90 84 2) none <| .op (.ext 91 84 3) none <| .op (.alloc 16 ⟨TPacket, (((0 : Int), (0 : Int), (0 : Int), (0 : Int), (0 : Int), ([] : List Int), ()) : DPacket)⟩) none <| .op (.mv 14 (.t 88)) none <| .op (.mv 15 (.t 89)) none <| .op (.st 16 (.t 90) 6) none <| .op (.mv 17 (.t 91)) none <| .nil))) <|
  (.seq (.seq (.reg (.op (.mv 92 (.t 15)) none <| .op (.un 93 .not (.t 92)) none <| .nil)) <|
  (.cond (.t 93)
  (.pre [.keep [1, 6, 7, 11, 12]] (.exit 3))
  .skip)) <|
  (.seq (.seq (.pre [.keep [1, 6, 7, 11, 12, 13, 14]] (.reg (.op (.fa 94 13 4 4) none <| .op (.ld 95 94 1 false) none <| .op (.cvt 96 (.int .i64) (.t 95)) none <| .op (.bin 97 .lss (.t 96) (.c ⟨.int .i64, ((1 : Int) : Int)⟩)) none <| .op (.mv 98 (.t 97)) none <| .grp 98 false (.op (.fa 99 13 4 4) (some ([13, 98, 99], [99])) <| .op (.ld 100 99 1 false) (some ([13, 98, 99, 100], [100])) <| .op (.cvt 101 (.int .i64) (.t 100)) (some ([98, 100, 101], [101])) <| .op (.bor 102 7) (some ([7, 98, 102], [102])) <| .op (.len 103 (.t 102) false) (some ([7, 98, 102, 103], [103])) <| .op (.bin 104 .gtr (.t 101) (.t 103)) (some ([98, 101, 103, 104], [104])) <| .nil) 104 105 [99, 100, 101, 102, 103, 104] <| .op (.mv 106 (.t 105)) none <| .grp 106 false (.op (.mv 107 (.t 14)) (some ([14, 106, 107], [107])) <| .op (.fa 108 13 5 5) (some ([13, 106, 108], [108])) <| .op (.ld 109 108 1 false) (some ([13, 106, 108, 109], [109])) <| .op (.bin 110 .neq (.t 107) (.t 109)) (some ([106, 107, 109, 110], [110])) <| .nil) 110 111 [107, 108, 109, 110] <| .nil))) <|
  (.cond (.t 111)
  (.seq (.pre [.keep []] (.reg (.op (.mv 4 (.c ⟨.bool, (false : Bool)⟩)) none <| .nil))) <|
  .ret)
  .skip)) <|
  (.seq (.reg (.op (.als 112 11) none <| .op (.fa 113 13 4 4) none <| .op (.ld 114 113 1 false) none <| .op (.idxE 115 (.t 112) (.t 114) 1) none <| .op (.ldE 116 115 1 false) none <| .op (.bin 117 .add (.t 116) (.c ⟨.int .i64, ((1 : Int) : Int)⟩)) none <| .op (.idxE 118 (.t 112) (.t 114) 1) none <| .op (.stE 118 (.t 117) 1) none <| .nil)) <|
  (.seq (.pre [.keep [1, 6, 7, 11, 12]] (.reg (.op (.mv 119 (.t 1)) none <| .op (.mv 120 (.t 12)) none <| .op (.idxA 121 (.t 119) (.t 120) 1 0) none <| .op (.ld 122 121 1 false) none <| .op (.bin 123 .rem (.t 122) (.c ⟨.int .u8, ((3 : Int) : Int)⟩)) none <| .op (.bin 124 .eql (.t 123) (.c ⟨.int .u8, ((0 : Int) : Int)⟩)) none <| .nil))) <|
  (.cond (.t 124)
  (.reg (.op (.bor 125 6) none <| .op (.call (some 126) (rpc_Callee_Reply.sp n) [.l 125, .v (.c ⟨.int .u8, ((1 : Int) : Int)⟩), .v (.c ⟨.str, (([100, 111, 110, 101] : List Int) : List Int)⟩)]) none <| .nil))
  .skip)))))))) [.keep [1, 6, 7, 11, 12]]) X7)) [.keep [1, 6, 7, 11, 12]])
noncomputable abbrev law11_RpcOnce.cb6 (n : Nat) : XC := law11_RpcOnce.db6 n (law11_RpcOnce.c7 n)
theorem law11_RpcOnce.q2_0_r (n : Nat) (X : XC) (x11 : List Int) : law11_RpcOnce.H2 n X [(11, some ⟨.slX .S (.int .i64), x11⟩)] = (ev X [(11, some ⟨.slX .S (.int .i64), x11⟩)] (⟨retK law11_RpcOnce.rs law11_RpcOnce.ps law11_RpcOnce.r, []⟩ : Ks law11_RpcOnce.R) (retK law11_RpcOnce.rs law11_RpcOnce.ps law11_RpcOnce.r) : Option law11_RpcOnce.R) := by kernel_rfl
theorem law11_RpcOnce.q2_0 (n : Nat) (x11 : List Int) : law11_RpcOnce.K2 n [(11, some ⟨.slX .S (.int .i64), x11⟩)] = law11_RpcOnce.j2 n x11 := (law11_RpcOnce.q2_0_r n (law11_RpcOnce.c2 n) x11).trans (law11_RpcOnce.s2 n x11)
noncomputable def law11_RpcOnce.l6 (n : Nat) : Nat → (List Int) → DCallee → (List DPacket) → (List Int) → Int → Option Bool
  | 0, _, _, _, _, _ => none
  | k + 1, x1, x6, x7, x11, x12 =>
  (bif (decide (x12 < (x1.length : Int))) then (some (decide (x12 < (60 : Int)))) else some false).bind fun g1 =>
  (bif g1 then (some (decide ((0 : Int) < (x7.length : Int)))) else some false).bind fun g2 =>
  bif g2 then (idxK x1 x12 fun e3 => nzK (x7.length : Int) (idxK x7 (Int.tmod (IntKind.i64.wrap e3) (x7.length : Int)) fun e4 => (rpc_Callee_Take.f n (some (x6.1, x6.2)) (e4.1, e4.2.1, e4.2.2.1, e4.2.2.2.1, e4.2.2.2.2.1, e4.2.2.2.2.2.1, e4.2.2.2.2.2.2)).bind fun r5 => (r5.1).bind fun p6 => bif (!r5.2.2.1) then (law11_RpcOnce.j7 n (law11_RpcOnce.l6 n k) x1 (p6.1, p6.2) x7 x11 x12)
  else ((bif (decide ((IntKind.i64.wrap e4.2.2.2.2.1) < (1 : Int))) then some true else (some (decide ((x7.length : Int) < (IntKind.i64.wrap e4.2.2.2.2.1))))).bind fun g7 =>
  (bif g7 then some true else (some (!decide (r5.2.1 = e4.2.2.2.2.2.1)))).bind fun g8 =>
  bif g8 then (some false)
  else (inK' e4.2.2.2.2.1 x11.length (idxK x11 e4.2.2.2.2.1 fun e9 => inK' e4.2.2.2.2.1 x11.length (idxK x11 e4.2.2.2.2.1 fun e10 => idxK x1 x12 fun e11 => nzK (3 : Int) (bif (decide ((Int.tmod e11 (3 : Int)) = (0 : Int))) then ((rpc_Callee_Reply.f n (some (p6.1, p6.2)) (1 : Int) ([100, 111, 110, 101] : List Int)).bind fun r12 => (r12.1).bind fun p13 => law11_RpcOnce.j7 n (law11_RpcOnce.l6 n k) x1 (p13.1, p13.2) x7 (lset x11 e4.2.2.2.2.1 (IntKind.i64.wrap (e9 + (1 : Int)))) x12)
  else (law11_RpcOnce.j7 n (law11_RpcOnce.l6 n k) x1 (p6.1, p6.2) x7 (lset x11 e4.2.2.2.2.1 (IntKind.i64.wrap (e9 + (1 : Int)))) x12))))))))
  else (law11_RpcOnce.j2 n x11)
theorem law11_RpcOnce.wb6 (n : Nat) (Kr6 : St → Option law11_RpcOnce.R) (x1 : List Int) (x6 : DCallee) (x7 : List DPacket) (x11 : List Int) (x12 : Int) (K2 : St → Option law11_RpcOnce.R) (X7 : XC) : ev (law11_RpcOnce.db6 n X7) (keepSt [(1, some ⟨.slB .U false (.int .u8), x1⟩), (6, some ⟨.box TCallee, x6⟩), (7, some ⟨.slX .N TPacket, x7⟩), (11, some ⟨.slX .S (.int .i64), x11⟩), (12, some ⟨.int .i64, x12⟩)] [1, 6, 7, 11, 12]) (⟨retK law11_RpcOnce.rs law11_RpcOnce.ps law11_RpcOnce.r, [(2, K2)]⟩ : Ks law11_RpcOnce.R) Kr6 =
  ((bif (decide (x12 < (x1.length : Int))) then (some (decide (x12 < (60 : Int)))) else some false).bind fun g1 =>
  (bif g1 then (some (decide ((0 : Int) < (x7.length : Int)))) else some false).bind fun g2 =>
  bif g2 then (idxK x1 x12 fun e3 => nzK (x7.length : Int) (idxK x7 (Int.tmod (IntKind.i64.wrap e3) (x7.length : Int)) fun e4 => (rpc_Callee_Take.f n (some (x6.1, x6.2)) (e4.1, e4.2.1, e4.2.2.1, e4.2.2.2.1, e4.2.2.2.2.1, e4.2.2.2.2.2.1, e4.2.2.2.2.2.2)).bind fun r5 => (r5.1).bind fun p6 => bif (!r5.2.2.1) then (ev X7 [(1, some ⟨.slB .U false (.int .u8), x1⟩), (6, some ⟨.box TCallee, ((p6.1, p6.2) : DCallee)⟩), (7, some ⟨.slX .N TPacket, x7⟩), (11, some ⟨.slX .S (.int .i64), x11⟩), (12, some ⟨.int .i64, x12⟩)] (⟨retK law11_RpcOnce.rs law11_RpcOnce.ps law11_RpcOnce.r, [(2, K2)]⟩ : Ks law11_RpcOnce.R) (law11_RpcOnce.Kb6 Kr6))
  else ((bif (decide ((IntKind.i64.wrap e4.2.2.2.2.1) < (1 : Int))) then some true else (some (decide ((x7.length : Int) < (IntKind.i64.wrap e4.2.2.2.2.1))))).bind fun g7 =>
  (bif g7 then some true else (some (!decide (r5.2.1 = e4.2.2.2.2.2.1)))).bind fun g8 =>
  bif g8 then (some false)
  else (inK' e4.2.2.2.2.1 x11.length (idxK x11 e4.2.2.2.2.1 fun e9 => inK' e4.2.2.2.2.1 x11.length (idxK x11 e4.2.2.2.2.1 fun e10 => idxK x1 x12 fun e11 => nzK (3 : Int) (bif (decide ((Int.tmod e11 (3 : Int)) = (0 : Int))) then ((rpc_Callee_Reply.f n (some (p6.1, p6.2)) (1 : Int) ([100, 111, 110, 101] : List Int)).bind fun r12 => (r12.1).bind fun p13 => ev X7 [(1, some ⟨.slB .U false (.int .u8), x1⟩), (6, some ⟨.box TCallee, ((p13.1, p13.2) : DCallee)⟩), (7, some ⟨.slX .N TPacket, x7⟩), (11, some ⟨.slX .S (.int .i64), ((lset x11 e4.2.2.2.2.1 (IntKind.i64.wrap (e9 + (1 : Int)))) : List Int)⟩), (12, some ⟨.int .i64, x12⟩)] (⟨retK law11_RpcOnce.rs law11_RpcOnce.ps law11_RpcOnce.r, [(2, K2)]⟩ : Ks law11_RpcOnce.R) (law11_RpcOnce.Kb6 Kr6))
  else (ev X7 [(1, some ⟨.slB .U false (.int .u8), x1⟩), (6, some ⟨.box TCallee, ((p6.1, p6.2) : DCallee)⟩), (7, some ⟨.slX .N TPacket, x7⟩), (11, some ⟨.slX .S (.int .i64), ((lset x11 e4.2.2.2.2.1 (IntKind.i64.wrap (e9 + (1 : Int)))) : List Int)⟩), (12, some ⟨.int .i64, x12⟩)] (⟨retK law11_RpcOnce.rs law11_RpcOnce.ps law11_RpcOnce.r, [(2, K2)]⟩ : Ks law11_RpcOnce.R) (law11_RpcOnce.Kb6 Kr6)))))))))
  else (K2 [(11, some ⟨.slX .S (.int .i64), x11⟩)]) : Option law11_RpcOnce.R) := by kernel_rfl
theorem law11_RpcOnce.l6_ok (n : Nat) (k : Nat) : ∀ (x1 : List Int) (x6 : DCallee) (x7 : List DPacket) (x11 : List Int) (x12 : Int), loopEv [1, 6, 7, 11, 12] (fun s K => ev (law11_RpcOnce.cb6 n) s (⟨retK law11_RpcOnce.rs law11_RpcOnce.ps law11_RpcOnce.r, [(2, (law11_RpcOnce.K2 n))]⟩ : Ks law11_RpcOnce.R) K) k [(1, some ⟨.slB .U false (.int .u8), x1⟩), (6, some ⟨.box TCallee, x6⟩), (7, some ⟨.slX .N TPacket, x7⟩), (11, some ⟨.slX .S (.int .i64), x11⟩), (12, some ⟨.int .i64, x12⟩)] = law11_RpcOnce.l6 n k x1 x6 x7 x11 x12 := by
  induction k with
  | zero => intros; rfl
  | succ k ih =>
    intro x1 x6 x7 x11 x12
    exact (law11_RpcOnce.wb6 n (fun st => loopEv [1, 6, 7, 11, 12] (fun s K => ev (law11_RpcOnce.cb6 n) s (⟨retK law11_RpcOnce.rs law11_RpcOnce.ps law11_RpcOnce.r, [(2, (law11_RpcOnce.K2 n))]⟩ : Ks law11_RpcOnce.R) K) k st) x1 x6 x7 x11 x12 (law11_RpcOnce.K2 n) (law11_RpcOnce.c7 n)).trans (by simp only [law11_RpcOnce.l6, law11_RpcOnce.s7 n (fun st => loopEv [1, 6, 7, 11, 12] (fun s K => ev (law11_RpcOnce.cb6 n) s (⟨retK law11_RpcOnce.rs law11_RpcOnce.ps law11_RpcOnce.r, [(2, (law11_RpcOnce.K2 n))]⟩ : Ks law11_RpcOnce.R) K) k st) (law11_RpcOnce.l6 n k) ih, law11_RpcOnce.q2_0 n] <;> kernel_rfl)
noncomputable def law11_RpcOnce.d1 (n : Nat) (X2 Y6 : XC) : XC :=
  (.seq (.reg (.op (.bor 54 7) none <| .op (.len 55 (.t 54) false) none <| .op (.bin 56 .add (.t 55) (.c ⟨.int .i64, ((1 : Int) : Int)⟩)) none <| .op (.mk 57 ⟨.int .i64, ((0 : Int) : Int)⟩ (.t 56) (.t 56) 8) none <| .op (.take 11 57) none <| .nil)) <|
  (.seq (.aft (.seq (.reg (.op (.mv 12 (.c ⟨.int .i64, ((0 : Int) : Int)⟩)) none <| .nil)) <|
  (.block 2 (.pre [.keep [1, 6, 7, 11, 12]] (.loop n [1, 6, 7, 11, 12] Y6)))) [.keep [11]]) X2))
noncomputable abbrev law11_RpcOnce.c1 (n : Nat) : XC := law11_RpcOnce.d1 n (law11_RpcOnce.c2 n) (law11_RpcOnce.cb6 n)
noncomputable def law11_RpcOnce.j1 (n : Nat) (x1 : List Int) (x6 : DCallee) (x7 : List DPacket) : Option Bool :=
  mkK (IntKind.i64.wrap ((x7.length : Int) + (1 : Int))) (IntKind.i64.wrap ((x7.length : Int) + (1 : Int))) 8 (law11_RpcOnce.l6 n n x1 (x6.1, x6.2) x7 (List.replicate ((IntKind.i64.wrap ((x7.length : Int) + (1 : Int)))).toNat (0 : Int)) (0 : Int))
theorem law11_RpcOnce.w1 (n : Nat) (x1 : List Int) (x6 : DCallee) (x7 : List DPacket) (X2 Y6 : XC) : ev (law11_RpcOnce.d1 n X2 Y6) [(1, some ⟨.slB .U false (.int .u8), x1⟩), (6, some ⟨.box TCallee, x6⟩), (7, some ⟨.slX .N TPacket, x7⟩)] (⟨retK law11_RpcOnce.rs law11_RpcOnce.ps law11_RpcOnce.r, []⟩ : Ks law11_RpcOnce.R) (retK law11_RpcOnce.rs law11_RpcOnce.ps law11_RpcOnce.r) =
  (mkK (IntKind.i64.wrap ((x7.length : Int) + (1 : Int))) (IntKind.i64.wrap ((x7.length : Int) + (1 : Int))) 8 (loopEv [1, 6, 7, 11, 12] (fun s K => ev Y6 s (⟨retK law11_RpcOnce.rs law11_RpcOnce.ps law11_RpcOnce.r, [(2, (law11_RpcOnce.H2 n X2))]⟩ : Ks law11_RpcOnce.R) K) n [(1, some ⟨.slB .U false (.int .u8), x1⟩), (6, some ⟨.box TCallee, ((x6.1, x6.2) : DCallee)⟩), (7, some ⟨.slX .N TPacket, x7⟩), (11, some ⟨.slX .S (.int .i64), ((List.replicate ((IntKind.i64.wrap ((x7.length : Int) + (1 : Int)))).toNat (0 : Int)) : List Int)⟩), (12, some ⟨.int .i64, (0 : Int)⟩)]) : Option law11_RpcOnce.R) := by kernel_rfl
theorem law11_RpcOnce.s1 (n : Nat) (x1 : List Int) (x6 : DCallee) (x7 : List DPacket) : ev (law11_RpcOnce.c1 n) [(1, some ⟨.slB .U false (.int .u8), x1⟩), (6, some ⟨.box TCallee, x6⟩), (7, some ⟨.slX .N TPacket, x7⟩)] (⟨retK law11_RpcOnce.rs law11_RpcOnce.ps law11_RpcOnce.r, []⟩ : Ks law11_RpcOnce.R) (retK law11_RpcOnce.rs law11_RpcOnce.ps law11_RpcOnce.r) = law11_RpcOnce.j1 n x1 x6 x7 := (law11_RpcOnce.w1 n x1 x6 x7 (law11_RpcOnce.c2 n) (law11_RpcOnce.cb6 n)).trans (by simp only [law11_RpcOnce.j1, law11_RpcOnce.l6_ok n] <;> kernel_rfl)
noncomputable def law11_RpcOnce.H1 (n : Nat) (X : XC) : St → Option law11_RpcOnce.R := fun st => ghK [.keep [1, 6, 7]] st fun st => ev X st (⟨retK law11_RpcOnce.rs law11_RpcOnce.ps law11_RpcOnce.r, []⟩ : Ks law11_RpcOnce.R) (retK law11_RpcOnce.rs law11_RpcOnce.ps law11_RpcOnce.r)
noncomputable abbrev law11_RpcOnce.K1 (n : Nat) : St → Option law11_RpcOnce.R := law11_RpcOnce.H1 n (law11_RpcOnce.c1 n)
noncomputable def law11_RpcOnce.Kb8 (Kr8 : St → Option law11_RpcOnce.R) : St → Option law11_RpcOnce.R := fun st => ghK [.keep [0, 1, 5, 6, 7, 8]] st Kr8
noncomputable def law11_RpcOnce.d9 (n : Nat) : XC :=
  (.aft (.reg (.op (.mv 29 (.t 8)) none <| .op (.bin 30 .add (.t 29) (.c ⟨.int .i64, ((1 : Int) : Int)⟩)) none <| .op (.mv 8 (.t 30)) none <| .nil)) [.keep [0, 1, 5, 6, 7, 8]])
noncomputable abbrev law11_RpcOnce.c9 (n : Nat) : XC := law11_RpcOnce.d9 n
theorem law11_RpcOnce.qb8_0 (Kr8 : St → Option law11_RpcOnce.R) (kr8 : (List (List Int)) → (List Int) → (Option DCaller) → DCallee → (List DPacket) → Int → Option Bool) (hK8 : ∀ (x0 : List (List Int)) (x1 : List Int) (x5 : Option DCaller) (x6 : DCallee) (x7 : List DPacket) (x8 : Int), Kr8 [(0, some ⟨.slB .U false .str, x0⟩), (1, some ⟨.slB .U false (.int .u8), x1⟩), (5, some ⟨.opt TCaller, x5⟩), (6, some ⟨.box TCallee, x6⟩), (7, some ⟨.slX .N TPacket, x7⟩), (8, some ⟨.int .i64, x8⟩)] = kr8 x0 x1 x5 x6 x7 x8) (x0 : List (List Int)) (x1 : List Int) (x5 : Option DCaller) (x6 : DCallee) (x7 : List DPacket) (x8 : Int) : law11_RpcOnce.Kb8 Kr8 [(0, some ⟨.slB .U false .str, x0⟩), (1, some ⟨.slB .U false (.int .u8), x1⟩), (5, some ⟨.opt TCaller, x5⟩), (6, some ⟨.box TCallee, x6⟩), (7, some ⟨.slX .N TPacket, x7⟩), (8, some ⟨.int .i64, x8⟩)] = kr8 x0 x1 x5 (x6.1, x6.2) x7 x8 := (by kernel_rfl : _ = Kr8 [(0, some ⟨.slB .U false .str, x0⟩), (1, some ⟨.slB .U false (.int .u8), x1⟩), (5, some ⟨.opt TCaller, x5⟩), (6, some ⟨.box TCallee, ((x6.1, x6.2) : DCallee)⟩), (7, some ⟨.slX .N TPacket, x7⟩), (8, some ⟨.int .i64, x8⟩)]).trans (hK8 x0 x1 x5 (x6.1, x6.2) x7 x8)
noncomputable def law11_RpcOnce.j9 (n : Nat) (kr8 : (List (List Int)) → (List Int) → (Option DCaller) → DCallee → (List DPacket) → Int → Option Bool) (x0 : List (List Int)) (x1 : List Int) (x5 : Option DCaller) (x6 : DCallee) (x7 : List DPacket) (x8 : Int) : Option Bool :=
  kr8 x0 x1 x5 (x6.1, x6.2) x7 (IntKind.i64.wrap (x8 + (1 : Int)))
theorem law11_RpcOnce.w9 (n : Nat) (Kr8 : St → Option law11_RpcOnce.R) (x0 : List (List Int)) (x1 : List Int) (x5 : Option DCaller) (x6 : DCallee) (x7 : List DPacket) (x8 : Int) (K1 : St → Option law11_RpcOnce.R) (Kb8 : St → Option law11_RpcOnce.R) : ev (law11_RpcOnce.d9 n) [(0, some ⟨.slB .U false .str, x0⟩), (1, some ⟨.slB .U false (.int .u8), x1⟩), (5, some ⟨.opt TCaller, x5⟩), (6, some ⟨.box TCallee, x6⟩), (7, some ⟨.slX .N TPacket, x7⟩), (8, some ⟨.int .i64, x8⟩)] (⟨retK law11_RpcOnce.rs law11_RpcOnce.ps law11_RpcOnce.r, [(0, K1)]⟩ : Ks law11_RpcOnce.R) Kb8 =
  (Kb8 [(0, some ⟨.slB .U false .str, x0⟩), (1, some ⟨.slB .U false (.int .u8), x1⟩), (5, some ⟨.opt TCaller, x5⟩), (6, some ⟨.box TCallee, x6⟩), (7, some ⟨.slX .N TPacket, x7⟩), (8, some ⟨.int .i64, (IntKind.i64.wrap (x8 + (1 : Int)))⟩)] : Option law11_RpcOnce.R) := by kernel_rfl
theorem law11_RpcOnce.s9 (n : Nat) (Kr8 : St → Option law11_RpcOnce.R) (kr8 : (List (List Int)) → (List Int) → (Option DCaller) → DCallee → (List DPacket) → Int → Option Bool) (hK8 : ∀ (x0 : List (List Int)) (x1 : List Int) (x5 : Option DCaller) (x6 : DCallee) (x7 : List DPacket) (x8 : Int), Kr8 [(0, some ⟨.slB .U false .str, x0⟩), (1, some ⟨.slB .U false (.int .u8), x1⟩), (5, some ⟨.opt TCaller, x5⟩), (6, some ⟨.box TCallee, x6⟩), (7, some ⟨.slX .N TPacket, x7⟩), (8, some ⟨.int .i64, x8⟩)] = kr8 x0 x1 x5 x6 x7 x8) (x0 : List (List Int)) (x1 : List Int) (x5 : Option DCaller) (x6 : DCallee) (x7 : List DPacket) (x8 : Int) : ev (law11_RpcOnce.c9 n) [(0, some ⟨.slB .U false .str, x0⟩), (1, some ⟨.slB .U false (.int .u8), x1⟩), (5, some ⟨.opt TCaller, x5⟩), (6, some ⟨.box TCallee, x6⟩), (7, some ⟨.slX .N TPacket, x7⟩), (8, some ⟨.int .i64, x8⟩)] (⟨retK law11_RpcOnce.rs law11_RpcOnce.ps law11_RpcOnce.r, [(0, (law11_RpcOnce.K1 n))]⟩ : Ks law11_RpcOnce.R) (law11_RpcOnce.Kb8 Kr8) = law11_RpcOnce.j9 n kr8 x0 x1 x5 x6 x7 x8 := (law11_RpcOnce.w9 n Kr8 x0 x1 x5 x6 x7 x8 (law11_RpcOnce.K1 n) (law11_RpcOnce.Kb8 Kr8)).trans (by simp only [law11_RpcOnce.j9, law11_RpcOnce.qb8_0 Kr8 kr8 hK8] <;> kernel_rfl)
noncomputable def law11_RpcOnce.H9 (n : Nat) (K1 : St → Option law11_RpcOnce.R) (Kb8 : St → Option law11_RpcOnce.R) (X : XC) : St → Option law11_RpcOnce.R := fun st => ghK [.coe 5 (.opt TCaller), .keep [0, 1, 5, 6, 7, 8]] st fun st => ev X st (⟨retK law11_RpcOnce.rs law11_RpcOnce.ps law11_RpcOnce.r, [(0, K1)]⟩ : Ks law11_RpcOnce.R) Kb8
noncomputable abbrev law11_RpcOnce.K9 (n : Nat) (Kr8 : St → Option law11_RpcOnce.R) : St → Option law11_RpcOnce.R := law11_RpcOnce.H9 n (law11_RpcOnce.K1 n) (law11_RpcOnce.Kb8 Kr8) (law11_RpcOnce.c9 n)
noncomputable def law11_RpcOnce.d11 (n : Nat) : XC :=
  (.reg (.op (.take 50 7) none <| .op (.ld 51 9 6 true) none <| .op (.bsl 52 TPacket [(.t 51)]) none <| .op (.app 53 50 (.t 52) 32 6) none <| .op (.take 7 53) none <| .nil))
noncomputable abbrev law11_RpcOnce.c11 (n : Nat) : XC := law11_RpcOnce.d11 n
theorem law11_RpcOnce.q9_0_r (n : Nat) (Kr8 : St → Option law11_RpcOnce.R) (K1 : St → Option law11_RpcOnce.R) (Kb8 : St → Option law11_RpcOnce.R) (X : XC) (x0 : List (List Int)) (x1 : List Int) (x5 : Option DCaller) (x6 : DCallee) (x7 : List DPacket) (x8 : Int) : law11_RpcOnce.H9 n K1 Kb8 X [(0, some ⟨.slB .U false .str, x0⟩), (1, some ⟨.slB .U false (.int .u8), x1⟩), (5, some ⟨.opt TCaller, x5⟩), (6, some ⟨.box TCallee, x6⟩), (7, some ⟨.slX .N TPacket, x7⟩), (8, some ⟨.int .i64, x8⟩)] = (ev X [(0, some ⟨.slB .U false .str, x0⟩), (1, some ⟨.slB .U false (.int .u8), x1⟩), (5, some ⟨.opt TCaller, x5⟩), (6, some ⟨.box TCallee, ((x6.1, x6.2) : DCallee)⟩), (7, some ⟨.slX .N TPacket, x7⟩), (8, some ⟨.int .i64, x8⟩)] (⟨retK law11_RpcOnce.rs law11_RpcOnce.ps law11_RpcOnce.r, [(0, K1)]⟩ : Ks law11_RpcOnce.R) Kb8 : Option law11_RpcOnce.R) := by kernel_rfl
theorem law11_RpcOnce.q9_0 (n : Nat) (Kr8 : St → Option law11_RpcOnce.R) (kr8 : (List (List Int)) → (List Int) → (Option DCaller) → DCallee → (List DPacket) → Int → Option Bool) (hK8 : ∀ (x0 : List (List Int)) (x1 : List Int) (x5 : Option DCaller) (x6 : DCallee) (x7 : List DPacket) (x8 : Int), Kr8 [(0, some ⟨.slB .U false .str, x0⟩), (1, some ⟨.slB .U false (.int .u8), x1⟩), (5, some ⟨.opt TCaller, x5⟩), (6, some ⟨.box TCallee, x6⟩), (7, some ⟨.slX .N TPacket, x7⟩), (8, some ⟨.int .i64, x8⟩)] = kr8 x0 x1 x5 x6 x7 x8) (x0 : List (List Int)) (x1 : List Int) (x5 : Option DCaller) (x6 : DCallee) (x7 : List DPacket) (x8 : Int) : law11_RpcOnce.K9 n Kr8 [(0, some ⟨.slB .U false .str, x0⟩), (1, some ⟨.slB .U false (.int .u8), x1⟩), (5, some ⟨.opt TCaller, x5⟩), (6, some ⟨.box TCallee, x6⟩), (7, some ⟨.slX .N TPacket, x7⟩), (8, some ⟨.int .i64, x8⟩)] = law11_RpcOnce.j9 n kr8 x0 x1 x5 (x6.1, x6.2) x7 x8 := (law11_RpcOnce.q9_0_r n Kr8 (law11_RpcOnce.K1 n) (law11_RpcOnce.Kb8 Kr8) (law11_RpcOnce.c9 n) x0 x1 x5 x6 x7 x8).trans (law11_RpcOnce.s9 n Kr8 kr8 hK8 x0 x1 x5 (x6.1, x6.2) x7 x8)
noncomputable def law11_RpcOnce.j11 (n : Nat) (kr8 : (List (List Int)) → (List Int) → (Option DCaller) → DCallee → (List DPacket) → Int → Option Bool) (x0 : List (List Int)) (x1 : List Int) (x5 : Option DCaller) (x6 : DCallee) (x7 : List DPacket) (x8 : Int) (x9 : DPacket) : Option Bool :=
  appK x7.length ([x9] : List DPacket).length 32 (law11_RpcOnce.j9 n kr8 x0 x1 x5 (x6.1, x6.2) (x7 ++ ([x9] : List DPacket)) x8)
theorem law11_RpcOnce.w11 (n : Nat) (Kr8 : St → Option law11_RpcOnce.R) (x0 : List (List Int)) (x1 : List Int) (x5 : Option DCaller) (x6 : DCallee) (x7 : List DPacket) (x8 : Int) (x9 : DPacket) (K9 : St → Option law11_RpcOnce.R) (K1 : St → Option law11_RpcOnce.R) : ev (law11_RpcOnce.d11 n) [(0, some ⟨.slB .U false .str, x0⟩), (1, some ⟨.slB .U false (.int .u8), x1⟩), (5, some ⟨.opt TCaller, x5⟩), (6, some ⟨.box TCallee, x6⟩), (7, some ⟨.slX .N TPacket, x7⟩), (8, some ⟨.int .i64, x8⟩), (9, some ⟨.box TPacket, x9⟩)] (⟨retK law11_RpcOnce.rs law11_RpcOnce.ps law11_RpcOnce.r, [(1, K9), (0, K1)]⟩ : Ks law11_RpcOnce.R) (fun st => ghK [.keep [0, 1, 5, 6, 7, 8]] st K9) =
  (appK x7.length ([x9] : List DPacket).length 32 (K9 [(0, some ⟨.slB .U false .str, x0⟩), (1, some ⟨.slB .U false (.int .u8), x1⟩), (5, some ⟨.opt TCaller, x5⟩), (6, some ⟨.box TCallee, x6⟩), (7, some ⟨.slX .N TPacket, ((x7 ++ ([x9] : List DPacket)) : List DPacket)⟩), (8, some ⟨.int .i64, x8⟩)]) : Option law11_RpcOnce.R) := by kernel_rfl
theorem law11_RpcOnce.s11 (n : Nat) (Kr8 : St → Option law11_RpcOnce.R) (kr8 : (List (List Int)) → (List Int) → (Option DCaller) → DCallee → (List DPacket) → Int → Option Bool) (hK8 : ∀ (x0 : List (List Int)) (x1 : List Int) (x5 : Option DCaller) (x6 : DCallee) (x7 : List DPacket) (x8 : Int), Kr8 [(0, some ⟨.slB .U false .str, x0⟩), (1, some ⟨.slB .U false (.int .u8), x1⟩), (5, some ⟨.opt TCaller, x5⟩), (6, some ⟨.box TCallee, x6⟩), (7, some ⟨.slX .N TPacket, x7⟩), (8, some ⟨.int .i64, x8⟩)] = kr8 x0 x1 x5 x6 x7 x8) (x0 : List (List Int)) (x1 : List Int) (x5 : Option DCaller) (x6 : DCallee) (x7 : List DPacket) (x8 : Int) (x9 : DPacket) : ev (law11_RpcOnce.c11 n) [(0, some ⟨.slB .U false .str, x0⟩), (1, some ⟨.slB .U false (.int .u8), x1⟩), (5, some ⟨.opt TCaller, x5⟩), (6, some ⟨.box TCallee, x6⟩), (7, some ⟨.slX .N TPacket, x7⟩), (8, some ⟨.int .i64, x8⟩), (9, some ⟨.box TPacket, x9⟩)] (⟨retK law11_RpcOnce.rs law11_RpcOnce.ps law11_RpcOnce.r, [(1, (law11_RpcOnce.K9 n Kr8)), (0, (law11_RpcOnce.K1 n))]⟩ : Ks law11_RpcOnce.R) (fun st => ghK [.keep [0, 1, 5, 6, 7, 8]] st (law11_RpcOnce.K9 n Kr8)) = law11_RpcOnce.j11 n kr8 x0 x1 x5 x6 x7 x8 x9 := (law11_RpcOnce.w11 n Kr8 x0 x1 x5 x6 x7 x8 x9 (law11_RpcOnce.K9 n Kr8) (law11_RpcOnce.K1 n)).trans (by simp only [law11_RpcOnce.j11, law11_RpcOnce.q9_0 n Kr8 kr8 hK8] <;> kernel_rfl)
noncomputable def law11_RpcOnce.H11 (n : Nat) (K9 : St → Option law11_RpcOnce.R) (K1 : St → Option law11_RpcOnce.R) (X : XC) : St → Option law11_RpcOnce.R := fun st => ghK [.coe 5 (.opt TCaller), .keep [0, 1, 5, 6, 7, 8, 9]] st fun st => ev X st (⟨retK law11_RpcOnce.rs law11_RpcOnce.ps law11_RpcOnce.r, [(1, K9), (0, K1)]⟩ : Ks law11_RpcOnce.R) (fun st => ghK [.keep [0, 1, 5, 6, 7, 8]] st K9)
noncomputable abbrev law11_RpcOnce.K11 (n : Nat) (Kr8 : St → Option law11_RpcOnce.R) : St → Option law11_RpcOnce.R := law11_RpcOnce.H11 n (law11_RpcOnce.K9 n Kr8) (law11_RpcOnce.K1 n) (law11_RpcOnce.c11 n)
noncomputable def law11_RpcOnce.d10 (n : Nat) (X11 : XC) : XC :=
  (.aft (.seq (.pre [.split 5 []] (.reg (.op (.bor 39 5) none <| .op (.call (some 40) (rpc_Caller_Tick.sp n) [.l 39, .v (.c ⟨.int .u64, ((0 : Int) : Int)⟩)]) none <| .op (.take 38 40) none <| .op (.ext 41 38 0) none <| .op (.ext 42 38 1) none <| .op (.alloc 9 ⟨TPacket, (((0 : Int), (0 : Int), (0 : Int), (0 : Int), (0 : Int), ([] : List Int), ()) : DPacket)⟩) none <| .op (.st 9 (.t 41) 6) none <| .op (.mv 10 (.t 42)) none <| .nil))) <|
  (.seq (.aft (.seq (.reg (.op (.mv 43 (.t 10)) none <| .op (.un 44 .not (.t 43)) none <| .op (.mv 45 (.t 44)) none <| .grpS 45 false (.op (.bor 46 5) (some ([5, 45, 46], [46])) <| .op (.call (some 47) (rpc_Caller_Cancel.sp n) [.l 46]) (some ([5, 45, 46, 47], [5, 47])) <| .op (.bin 48 .neq (.t 47) (.c ⟨.int .i64, ((0 : Int) : Int)⟩)) (some ([45, 47, 48], [48])) <| .nil) 48 49 [46, 47, 48] [5] <| .nil)) <|
  (.cond (.t 49)
  (.seq (.pre [.keep []] (.reg (.op (.mv 4 (.c ⟨.bool, (false : Bool)⟩)) none <| .nil))) <|
  .ret)
  .skip)) [.coe 5 (.opt TCaller), .keep [0, 1, 5, 6, 7, 8, 9]]) X11)) [.keep [0, 1, 5, 6, 7, 8]])
noncomputable abbrev law11_RpcOnce.c10 (n : Nat) : XC := law11_RpcOnce.d10 n (law11_RpcOnce.c11 n)
noncomputable def law11_RpcOnce.j10 (n : Nat) (kr8 : (List (List Int)) → (List Int) → (Option DCaller) → DCallee → (List DPacket) → Int → Option Bool) (x0 : List (List Int)) (x1 : List Int) (x5 : Option DCaller) (x6 : DCallee) (x7 : List DPacket) (x8 : Int) : Option Bool :=
  optM x5 ((rpc_Caller_Tick.f n none (0 : Int)).bind fun r2 => bif (!r2.2.2.1) then (some false)
  else ((rpc_Caller_Cancel.f n none).bind fun r4 => bif (!decide (r4.2 = (0 : Int))) then (some false)
  else (law11_RpcOnce.j11 n kr8 x0 x1 none (x6.1, x6.2) x7 x8 (r2.2.1.1, r2.2.1.2.1, r2.2.1.2.2.1, r2.2.1.2.2.2.1, r2.2.1.2.2.2.2.1, r2.2.1.2.2.2.2.2.1, r2.2.1.2.2.2.2.2.2)))) fun p1 => (rpc_Caller_Tick.f n (some ((p1.1.1, p1.1.2.1, p1.1.2.2.1, p1.1.2.2.2.1, p1.1.2.2.2.2.1, p1.1.2.2.2.2.2.1, p1.1.2.2.2.2.2.2), p1.2.1, p1.2.2.1, p1.2.2.2.1, p1.2.2.2.2)) (0 : Int)).bind fun r5 => (r5.1).bind fun p6 => bif (!r5.2.2.1) then (some false)
  else ((rpc_Caller_Cancel.f n (some ((p6.1.1, p6.1.2.1, p6.1.2.2.1, p6.1.2.2.2.1, p6.1.2.2.2.2.1, p6.1.2.2.2.2.2.1, p6.1.2.2.2.2.2.2), p6.2.1, p6.2.2.1, p6.2.2.2.1, p6.2.2.2.2))).bind fun r8 => (r8.1).bind fun p9 => bif (!decide (r8.2 = (0 : Int))) then (some false)
  else (law11_RpcOnce.j11 n kr8 x0 x1 (some ((p9.1.1, p9.1.2.1, p9.1.2.2.1, p9.1.2.2.2.1, p9.1.2.2.2.2.1, p9.1.2.2.2.2.2.1, p9.1.2.2.2.2.2.2), p9.2.1, p9.2.2.1, p9.2.2.2.1, p9.2.2.2.2)) (x6.1, x6.2) x7 x8 (r5.2.1.1, r5.2.1.2.1, r5.2.1.2.2.1, r5.2.1.2.2.2.1, r5.2.1.2.2.2.2.1, r5.2.1.2.2.2.2.2.1, r5.2.1.2.2.2.2.2.2)))
theorem law11_RpcOnce.w10 (n : Nat) (Kr8 : St → Option law11_RpcOnce.R) (x0 : List (List Int)) (x1 : List Int) (x5 : Option DCaller) (x6 : DCallee) (x7 : List DPacket) (x8 : Int) (K9 : St → Option law11_RpcOnce.R) (K1 : St → Option law11_RpcOnce.R) (X11 : XC) : ev (law11_RpcOnce.d10 n X11) [(0, some ⟨.slB .U false .str, x0⟩), (1, some ⟨.slB .U false (.int .u8), x1⟩), (5, some ⟨.opt TCaller, x5⟩), (6, some ⟨.box TCallee, x6⟩), (7, some ⟨.slX .N TPacket, x7⟩), (8, some ⟨.int .i64, x8⟩)] (⟨retK law11_RpcOnce.rs law11_RpcOnce.ps law11_RpcOnce.r, [(1, K9), (0, K1)]⟩ : Ks law11_RpcOnce.R) K9 =
  (optM x5 ((rpc_Caller_Tick.f n none (0 : Int)).bind fun r2 => bif (!r2.2.2.1) then (some false)
  else ((rpc_Caller_Cancel.f n none).bind fun r4 => bif (!decide (r4.2 = (0 : Int))) then (some false)
  else (ev X11 [(0, some ⟨.slB .U false .str, x0⟩), (1, some ⟨.slB .U false (.int .u8), x1⟩), (5, some ⟨.opt TCaller, (none : Option DCaller)⟩), (6, some ⟨.box TCallee, ((x6.1, x6.2) : DCallee)⟩), (7, some ⟨.slX .N TPacket, x7⟩), (8, some ⟨.int .i64, x8⟩), (9, some ⟨.box TPacket, ((r2.2.1.1, r2.2.1.2.1, r2.2.1.2.2.1, r2.2.1.2.2.2.1, r2.2.1.2.2.2.2.1, r2.2.1.2.2.2.2.2.1, r2.2.1.2.2.2.2.2.2) : DPacket)⟩)] (⟨retK law11_RpcOnce.rs law11_RpcOnce.ps law11_RpcOnce.r, [(1, K9), (0, K1)]⟩ : Ks law11_RpcOnce.R) (fun st => ghK [.keep [0, 1, 5, 6, 7, 8]] st K9)))) fun p1 => (rpc_Caller_Tick.f n (some ((p1.1.1, p1.1.2.1, p1.1.2.2.1, p1.1.2.2.2.1, p1.1.2.2.2.2.1, p1.1.2.2.2.2.2.1, p1.1.2.2.2.2.2.2), p1.2.1, p1.2.2.1, p1.2.2.2.1, p1.2.2.2.2)) (0 : Int)).bind fun r5 => (r5.1).bind fun p6 => bif (!r5.2.2.1) then (some false)
  else ((rpc_Caller_Cancel.f n (some ((p6.1.1, p6.1.2.1, p6.1.2.2.1, p6.1.2.2.2.1, p6.1.2.2.2.2.1, p6.1.2.2.2.2.2.1, p6.1.2.2.2.2.2.2), p6.2.1, p6.2.2.1, p6.2.2.2.1, p6.2.2.2.2))).bind fun r8 => (r8.1).bind fun p9 => bif (!decide (r8.2 = (0 : Int))) then (some false)
  else (ev X11 [(0, some ⟨.slB .U false .str, x0⟩), (1, some ⟨.slB .U false (.int .u8), x1⟩), (5, some ⟨.opt TCaller, ((some ((p9.1.1, p9.1.2.1, p9.1.2.2.1, p9.1.2.2.2.1, p9.1.2.2.2.2.1, p9.1.2.2.2.2.2.1, p9.1.2.2.2.2.2.2), p9.2.1, p9.2.2.1, p9.2.2.2.1, p9.2.2.2.2)) : Option DCaller)⟩), (6, some ⟨.box TCallee, ((x6.1, x6.2) : DCallee)⟩), (7, some ⟨.slX .N TPacket, x7⟩), (8, some ⟨.int .i64, x8⟩), (9, some ⟨.box TPacket, ((r5.2.1.1, r5.2.1.2.1, r5.2.1.2.2.1, r5.2.1.2.2.2.1, r5.2.1.2.2.2.2.1, r5.2.1.2.2.2.2.2.1, r5.2.1.2.2.2.2.2.2) : DPacket)⟩)] (⟨retK law11_RpcOnce.rs law11_RpcOnce.ps law11_RpcOnce.r, [(1, K9), (0, K1)]⟩ : Ks law11_RpcOnce.R) (fun st => ghK [.keep [0, 1, 5, 6, 7, 8]] st K9))) : Option law11_RpcOnce.R) := by kernel_rfl
theorem law11_RpcOnce.s10 (n : Nat) (Kr8 : St → Option law11_RpcOnce.R) (kr8 : (List (List Int)) → (List Int) → (Option DCaller) → DCallee → (List DPacket) → Int → Option Bool) (hK8 : ∀ (x0 : List (List Int)) (x1 : List Int) (x5 : Option DCaller) (x6 : DCallee) (x7 : List DPacket) (x8 : Int), Kr8 [(0, some ⟨.slB .U false .str, x0⟩), (1, some ⟨.slB .U false (.int .u8), x1⟩), (5, some ⟨.opt TCaller, x5⟩), (6, some ⟨.box TCallee, x6⟩), (7, some ⟨.slX .N TPacket, x7⟩), (8, some ⟨.int .i64, x8⟩)] = kr8 x0 x1 x5 x6 x7 x8) (x0 : List (List Int)) (x1 : List Int) (x5 : Option DCaller) (x6 : DCallee) (x7 : List DPacket) (x8 : Int) : ev (law11_RpcOnce.c10 n) [(0, some ⟨.slB .U false .str, x0⟩), (1, some ⟨.slB .U false (.int .u8), x1⟩), (5, some ⟨.opt TCaller, x5⟩), (6, some ⟨.box TCallee, x6⟩), (7, some ⟨.slX .N TPacket, x7⟩), (8, some ⟨.int .i64, x8⟩)] (⟨retK law11_RpcOnce.rs law11_RpcOnce.ps law11_RpcOnce.r, [(1, (law11_RpcOnce.K9 n Kr8)), (0, (law11_RpcOnce.K1 n))]⟩ : Ks law11_RpcOnce.R) (law11_RpcOnce.K9 n Kr8) = law11_RpcOnce.j10 n kr8 x0 x1 x5 x6 x7 x8 := (law11_RpcOnce.w10 n Kr8 x0 x1 x5 x6 x7 x8 (law11_RpcOnce.K9 n Kr8) (law11_RpcOnce.K1 n) (law11_RpcOnce.c11 n)).trans (by simp only [law11_RpcOnce.j10, law11_RpcOnce.s11 n Kr8 kr8 hK8] <;> kernel_rfl)
noncomputable def law11_RpcOnce.H10 (n : Nat) (K9 : St → Option law11_RpcOnce.R) (K1 : St → Option law11_RpcOnce.R) (X : XC) : St → Option law11_RpcOnce.R := fun st => ghK [.coe 5 (.opt TCaller), .keep [0, 1, 5, 6, 7, 8]] st fun st => ev X st (⟨retK law11_RpcOnce.rs law11_RpcOnce.ps law11_RpcOnce.r, [(1, K9), (0, K1)]⟩ : Ks law11_RpcOnce.R) K9
noncomputable abbrev law11_RpcOnce.K10 (n : Nat) (Kr8 : St → Option law11_RpcOnce.R) : St → Option law11_RpcOnce.R := law11_RpcOnce.H10 n (law11_RpcOnce.K9 n Kr8) (law11_RpcOnce.K1 n) (law11_RpcOnce.c10 n)
noncomputable def law11_RpcOnce.db8 (n : Nat) (X9 X10 : XC) : XC :=
  (.aft (.seq (.seq (.reg (.op (.mv 21 (.t 8)) none <| .op (.mv 22 (.t 0)) none <| .op (.len 23 (.t 22) false) none <| .op (.bin 24 .lss (.t 21) (.t 23)) none <| .op (.mv 25 (.t 24)) none <| .grp 25 true (.op (.mv 26 (.t 8)) (some ([8, 25, 26], [26])) <| .op (.bin 27 .lss (.t 26) (.c ⟨.int .i64, ((12 : Int) : Int)⟩)) (some ([25, 26, 27], [27])) <| .nil) 27 28 [26, 27] <| .nil)) <|
  (.cond (.t 28)
  .skip
  (.pre [.keep [1, 6, 7]] (.exit 0)))) <|
  (.seq (.aft (.block 1 (.seq (.aft (.seq (.pre [.split 5 []] (.reg (.op (.bor 31 5) none <| .op (.mv 32 (.t 0)) none <| .op (.mv 33 (.t 8)) none <| .op (.idxA 34 (.t 32) (.t 33) 1 0) none <| .op (.ld 35 34 1 false) none <| .op (.call (some 36) (rpc_Caller_Call.sp n) [.l 31, .v (.t 35)]) none <| .op (.bin 37 .neq (.t 36) (.c ⟨.int .i64, ((0 : Int) : Int)⟩)) none <| .nil))) <|
  (.cond (.t 37)
  (.pre [.keep [0, 1, 5, 6, 7, 8]] (.exit 1))
  .skip)) [.coe 5 (.opt TCaller), .keep [0, 1, 5, 6, 7, 8]]) X10)) [.coe 5 (.opt TCaller), .keep [0, 1, 5, 6, 7, 8]]) X9)) [.keep [0, 1, 5, 6, 7, 8]])
noncomputable abbrev law11_RpcOnce.cb8 (n : Nat) : XC := law11_RpcOnce.db8 n (law11_RpcOnce.c9 n) (law11_RpcOnce.c10 n)
theorem law11_RpcOnce.q1_0_r (n : Nat) (X : XC) (x1 : List Int) (x6 : DCallee) (x7 : List DPacket) : law11_RpcOnce.H1 n X [(1, some ⟨.slB .U false (.int .u8), x1⟩), (6, some ⟨.box TCallee, x6⟩), (7, some ⟨.slX .N TPacket, x7⟩)] = (ev X [(1, some ⟨.slB .U false (.int .u8), x1⟩), (6, some ⟨.box TCallee, ((x6.1, x6.2) : DCallee)⟩), (7, some ⟨.slX .N TPacket, x7⟩)] (⟨retK law11_RpcOnce.rs law11_RpcOnce.ps law11_RpcOnce.r, []⟩ : Ks law11_RpcOnce.R) (retK law11_RpcOnce.rs law11_RpcOnce.ps law11_RpcOnce.r) : Option law11_RpcOnce.R) := by kernel_rfl
theorem law11_RpcOnce.q1_0 (n : Nat) (x1 : List Int) (x6 : DCallee) (x7 : List DPacket) : law11_RpcOnce.K1 n [(1, some ⟨.slB .U false (.int .u8), x1⟩), (6, some ⟨.box TCallee, x6⟩), (7, some ⟨.slX .N TPacket, x7⟩)] = law11_RpcOnce.j1 n x1 (x6.1, x6.2) x7 := (law11_RpcOnce.q1_0_r n (law11_RpcOnce.c1 n) x1 x6 x7).trans (law11_RpcOnce.s1 n x1 (x6.1, x6.2) x7)
noncomputable def law11_RpcOnce.l8 (n : Nat) : Nat → (List (List Int)) → (List Int) → (Option DCaller) → DCallee → (List DPacket) → Int → Option Bool
  | 0, _, _, _, _, _, _ => none
  | k + 1, x0, x1, x5, x6, x7, x8 =>
  (bif (decide (x8 < (x0.length : Int))) then (some (decide (x8 < (12 : Int)))) else some false).bind fun g1 =>
  bif g1 then (optM x5 (idxK x0 x8 fun e3 => (rpc_Caller_Call.f n none e3).bind fun r4 => bif (!decide (r4.2 = (0 : Int))) then (law11_RpcOnce.j9 n (law11_RpcOnce.l8 n k) x0 x1 none (x6.1, x6.2) x7 x8)
  else (law11_RpcOnce.j10 n (law11_RpcOnce.l8 n k) x0 x1 none (x6.1, x6.2) x7 x8)) fun p2 => idxK x0 x8 fun e5 => (rpc_Caller_Call.f n (some ((p2.1.1, p2.1.2.1, p2.1.2.2.1, p2.1.2.2.2.1, p2.1.2.2.2.2.1, p2.1.2.2.2.2.2.1, p2.1.2.2.2.2.2.2), p2.2.1, p2.2.2.1, p2.2.2.2.1, p2.2.2.2.2)) e5).bind fun r6 => (r6.1).bind fun p7 => bif (!decide (r6.2 = (0 : Int))) then (law11_RpcOnce.j9 n (law11_RpcOnce.l8 n k) x0 x1 (some ((p7.1.1, p7.1.2.1, p7.1.2.2.1, p7.1.2.2.2.1, p7.1.2.2.2.2.1, p7.1.2.2.2.2.2.1, p7.1.2.2.2.2.2.2), p7.2.1, p7.2.2.1, p7.2.2.2.1, p7.2.2.2.2)) (x6.1, x6.2) x7 x8)
  else (law11_RpcOnce.j10 n (law11_RpcOnce.l8 n k) x0 x1 (some ((p7.1.1, p7.1.2.1, p7.1.2.2.1, p7.1.2.2.2.1, p7.1.2.2.2.2.1, p7.1.2.2.2.2.2.1, p7.1.2.2.2.2.2.2), p7.2.1, p7.2.2.1, p7.2.2.2.1, p7.2.2.2.2)) (x6.1, x6.2) x7 x8))
  else (law11_RpcOnce.j1 n x1 (x6.1, x6.2) x7)
theorem law11_RpcOnce.wb8 (n : Nat) (Kr8 : St → Option law11_RpcOnce.R) (x0 : List (List Int)) (x1 : List Int) (x5 : Option DCaller) (x6 : DCallee) (x7 : List DPacket) (x8 : Int) (K1 : St → Option law11_RpcOnce.R) (X9 X10 : XC) : ev (law11_RpcOnce.db8 n X9 X10) (keepSt [(0, some ⟨.slB .U false .str, x0⟩), (1, some ⟨.slB .U false (.int .u8), x1⟩), (5, some ⟨.opt TCaller, x5⟩), (6, some ⟨.box TCallee, x6⟩), (7, some ⟨.slX .N TPacket, x7⟩), (8, some ⟨.int .i64, x8⟩)] [0, 1, 5, 6, 7, 8]) (⟨retK law11_RpcOnce.rs law11_RpcOnce.ps law11_RpcOnce.r, [(0, K1)]⟩ : Ks law11_RpcOnce.R) Kr8 =
  ((bif (decide (x8 < (x0.length : Int))) then (some (decide (x8 < (12 : Int)))) else some false).bind fun g1 =>
  bif g1 then (optM x5 (idxK x0 x8 fun e3 => (rpc_Caller_Call.f n none e3).bind fun r4 => bif (!decide (r4.2 = (0 : Int))) then (ev X9 [(0, some ⟨.slB .U false .str, x0⟩), (1, some ⟨.slB .U false (.int .u8), x1⟩), (5, some ⟨.opt TCaller, (none : Option DCaller)⟩), (6, some ⟨.box TCallee, ((x6.1, x6.2) : DCallee)⟩), (7, some ⟨.slX .N TPacket, x7⟩), (8, some ⟨.int .i64, x8⟩)] (⟨retK law11_RpcOnce.rs law11_RpcOnce.ps law11_RpcOnce.r, [(0, K1)]⟩ : Ks law11_RpcOnce.R) (law11_RpcOnce.Kb8 Kr8))
  else (ev X10 [(0, some ⟨.slB .U false .str, x0⟩), (1, some ⟨.slB .U false (.int .u8), x1⟩), (5, some ⟨.opt TCaller, (none : Option DCaller)⟩), (6, some ⟨.box TCallee, ((x6.1, x6.2) : DCallee)⟩), (7, some ⟨.slX .N TPacket, x7⟩), (8, some ⟨.int .i64, x8⟩)] (⟨retK law11_RpcOnce.rs law11_RpcOnce.ps law11_RpcOnce.r, [(1, (law11_RpcOnce.H9 n K1 (law11_RpcOnce.Kb8 Kr8) X9)), (0, K1)]⟩ : Ks law11_RpcOnce.R) (law11_RpcOnce.H9 n K1 (law11_RpcOnce.Kb8 Kr8) X9))) fun p2 => idxK x0 x8 fun e5 => (rpc_Caller_Call.f n (some ((p2.1.1, p2.1.2.1, p2.1.2.2.1, p2.1.2.2.2.1, p2.1.2.2.2.2.1, p2.1.2.2.2.2.2.1, p2.1.2.2.2.2.2.2), p2.2.1, p2.2.2.1, p2.2.2.2.1, p2.2.2.2.2)) e5).bind fun r6 => (r6.1).bind fun p7 => bif (!decide (r6.2 = (0 : Int))) then (ev X9 [(0, some ⟨.slB .U false .str, x0⟩), (1, some ⟨.slB .U false (.int .u8), x1⟩), (5, some ⟨.opt TCaller, ((some ((p7.1.1, p7.1.2.1, p7.1.2.2.1, p7.1.2.2.2.1, p7.1.2.2.2.2.1, p7.1.2.2.2.2.2.1, p7.1.2.2.2.2.2.2), p7.2.1, p7.2.2.1, p7.2.2.2.1, p7.2.2.2.2)) : Option DCaller)⟩), (6, some ⟨.box TCallee, ((x6.1, x6.2) : DCallee)⟩), (7, some ⟨.slX .N TPacket, x7⟩), (8, some ⟨.int .i64, x8⟩)] (⟨retK law11_RpcOnce.rs law11_RpcOnce.ps law11_RpcOnce.r, [(0, K1)]⟩ : Ks law11_RpcOnce.R) (law11_RpcOnce.Kb8 Kr8))
  else (ev X10 [(0, some ⟨.slB .U false .str, x0⟩), (1, some ⟨.slB .U false (.int .u8), x1⟩), (5, some ⟨.opt TCaller, ((some ((p7.1.1, p7.1.2.1, p7.1.2.2.1, p7.1.2.2.2.1, p7.1.2.2.2.2.1, p7.1.2.2.2.2.2.1, p7.1.2.2.2.2.2.2), p7.2.1, p7.2.2.1, p7.2.2.2.1, p7.2.2.2.2)) : Option DCaller)⟩), (6, some ⟨.box TCallee, ((x6.1, x6.2) : DCallee)⟩), (7, some ⟨.slX .N TPacket, x7⟩), (8, some ⟨.int .i64, x8⟩)] (⟨retK law11_RpcOnce.rs law11_RpcOnce.ps law11_RpcOnce.r, [(1, (law11_RpcOnce.H9 n K1 (law11_RpcOnce.Kb8 Kr8) X9)), (0, K1)]⟩ : Ks law11_RpcOnce.R) (law11_RpcOnce.H9 n K1 (law11_RpcOnce.Kb8 Kr8) X9)))
  else (K1 [(1, some ⟨.slB .U false (.int .u8), x1⟩), (6, some ⟨.box TCallee, x6⟩), (7, some ⟨.slX .N TPacket, x7⟩)]) : Option law11_RpcOnce.R) := by kernel_rfl
theorem law11_RpcOnce.l8_ok (n : Nat) (k : Nat) : ∀ (x0 : List (List Int)) (x1 : List Int) (x5 : Option DCaller) (x6 : DCallee) (x7 : List DPacket) (x8 : Int), loopEv [0, 1, 5, 6, 7, 8] (fun s K => ev (law11_RpcOnce.cb8 n) s (⟨retK law11_RpcOnce.rs law11_RpcOnce.ps law11_RpcOnce.r, [(0, (law11_RpcOnce.K1 n))]⟩ : Ks law11_RpcOnce.R) K) k [(0, some ⟨.slB .U false .str, x0⟩), (1, some ⟨.slB .U false (.int .u8), x1⟩), (5, some ⟨.opt TCaller, x5⟩), (6, some ⟨.box TCallee, x6⟩), (7, some ⟨.slX .N TPacket, x7⟩), (8, some ⟨.int .i64, x8⟩)] = law11_RpcOnce.l8 n k x0 x1 x5 x6 x7 x8 := by
  induction k with
  | zero => intros; rfl
  | succ k ih =>
    intro x0 x1 x5 x6 x7 x8
    exact (law11_RpcOnce.wb8 n (fun st => loopEv [0, 1, 5, 6, 7, 8] (fun s K => ev (law11_RpcOnce.cb8 n) s (⟨retK law11_RpcOnce.rs law11_RpcOnce.ps law11_RpcOnce.r, [(0, (law11_RpcOnce.K1 n))]⟩ : Ks law11_RpcOnce.R) K) k st) x0 x1 x5 x6 x7 x8 (law11_RpcOnce.K1 n) (law11_RpcOnce.c9 n) (law11_RpcOnce.c10 n)).trans (by simp only [law11_RpcOnce.l8, law11_RpcOnce.s9 n (fun st => loopEv [0, 1, 5, 6, 7, 8] (fun s K => ev (law11_RpcOnce.cb8 n) s (⟨retK law11_RpcOnce.rs law11_RpcOnce.ps law11_RpcOnce.r, [(0, (law11_RpcOnce.K1 n))]⟩ : Ks law11_RpcOnce.R) K) k st) (law11_RpcOnce.l8 n k) ih, law11_RpcOnce.s10 n (fun st => loopEv [0, 1, 5, 6, 7, 8] (fun s K => ev (law11_RpcOnce.cb8 n) s (⟨retK law11_RpcOnce.rs law11_RpcOnce.ps law11_RpcOnce.r, [(0, (law11_RpcOnce.K1 n))]⟩ : Ks law11_RpcOnce.R) K) k st) (law11_RpcOnce.l8 n k) ih, law11_RpcOnce.q1_0 n] <;> kernel_rfl)
noncomputable def law11_RpcOnce.d (n : Nat) (X1 Y8 : XC) : XC :=
  (.seq (.reg (.op (.mv 4 (.c ⟨.bool, (false : Bool)⟩)) none <| .nil)) <|
  (.seq (.reg (.op (.call (some 19) (rpc_NewCaller.sp n) [.v (.c ⟨.int .u8, ((1 : Int) : Int)⟩), .v (.c ⟨.int .u32, ((0 : Int) : Int)⟩)]) none <| .op (.call (some 20) (rpc_NewCallee.sp n) []) none <| .op (.take 5 19) none <| .op (.take 6 20) none <| .nil)) <|
  (.seq (.reg (.op (.mv 7 (.c ⟨.nil 0, ()⟩)) none <| .nil)) <|
  (.seq (.aft (.seq (.reg (.op (.mv 8 (.c ⟨.int .i64, ((0 : Int) : Int)⟩)) none <| .nil)) <|
  (.block 0 (.pre [.coe 7 (.slX .N TPacket), .keep [0, 1, 5, 6, 7, 8]] (.loop n [0, 1, 5, 6, 7, 8] Y8)))) [.keep [1, 6, 7]]) X1))))
noncomputable abbrev law11_RpcOnce.c (n : Nat) : XC := law11_RpcOnce.d n (law11_RpcOnce.c1 n) (law11_RpcOnce.cb8 n)
noncomputable def law11_RpcOnce.f (n : Nat) (a0 : List (List Int)) (a1 : List Int) : Option Bool :=
  (rpc_NewCaller.f n (1 : Int) (0 : Int)).bind fun r1 => (rpc_NewCallee.f n).bind fun r2 => law11_RpcOnce.l8 n n a0 a1 r1 (r2.1, r2.2) ([] : List DPacket) (0 : Int)
theorem law11_RpcOnce.w (n : Nat) (a0 : List (List Int)) (a1 : List Int) (X1 Y8 : XC) : evFn (law11_RpcOnce.d n X1 Y8) law11_RpcOnce.rs law11_RpcOnce.ps law11_RpcOnce.r (a0, a1, ()) =
  ((rpc_NewCaller.f n (1 : Int) (0 : Int)).bind fun r1 => (rpc_NewCallee.f n).bind fun r2 => loopEv [0, 1, 5, 6, 7, 8] (fun s K => ev Y8 s (⟨retK law11_RpcOnce.rs law11_RpcOnce.ps law11_RpcOnce.r, [(0, (law11_RpcOnce.H1 n X1))]⟩ : Ks law11_RpcOnce.R) K) n [(0, some ⟨.slB .U false .str, a0⟩), (1, some ⟨.slB .U false (.int .u8), a1⟩), (5, some ⟨.opt TCaller, r1⟩), (6, some ⟨.box TCallee, ((r2.1, r2.2) : DCallee)⟩), (7, some ⟨.slX .N TPacket, (([] : List DPacket) : List DPacket)⟩), (8, some ⟨.int .i64, (0 : Int)⟩)] : Option law11_RpcOnce.R) := by kernel_rfl
theorem law11_RpcOnce.ok (n : Nat) (a0 : List (List Int)) (a1 : List Int) : evFn (law11_RpcOnce.c n) law11_RpcOnce.rs law11_RpcOnce.ps law11_RpcOnce.r (a0, a1, ()) = law11_RpcOnce.f n a0 a1 := (law11_RpcOnce.w n a0 a1 (law11_RpcOnce.c1 n) (law11_RpcOnce.cb8 n)).trans (by simp only [law11_RpcOnce.f, law11_RpcOnce.l8_ok n] <;> kernel_rfl)
noncomputable def law11_RpcOnce.sp (n : Nat) : FSpec := { f := 5, ps := law11_RpcOnce.ps, r := law11_RpcOnce.r, run := fun x => law11_RpcOnce.f n x.1 x.2.1 }
theorem law11_RpcOnce.calls (n : Nat) : (law11_RpcOnce.c n).calls = [rpc_NewCaller.sp n, rpc_NewCallee.sp n, rpc_Caller_Call.sp n, rpc_Caller_Tick.sp n, rpc_Caller_Cancel.sp n, rpc_Callee_Take.sp n, rpc_Callee_Reply.sp n, law11_live.sp n] := by kernel_rfl
theorem law11_RpcOnce.fits (n : Nat) : fnB tab hd Try.f5 (law11_RpcOnce.c n) law11_RpcOnce.rs (law11_RpcOnce.sp n).ps (law11_RpcOnce.sp n).r = true := by kernel_rfl
theorem law11_RpcOnce.sound (n : Nat) : Sound Try.prog (law11_RpcOnce.sp n) := by
  refine fnB_sound tabOk eqFacts mixed (fn := Try.f5) (c := law11_RpcOnce.c n) (rs := law11_RpcOnce.rs) (by kernel_rfl) ?_ (law11_RpcOnce.fits n) ?_
  · rw [law11_RpcOnce.calls]
    intro s hs
    simp only [List.mem_cons, List.not_mem_nil, or_false] at hs
    rcases hs with rfl | rfl | rfl | rfl | rfl | rfl | rfl | rfl
    · exact rpc_NewCaller.meets n
    · exact rpc_NewCallee.meets n
    · exact rpc_Caller_Call.meets n
    · exact rpc_Caller_Tick.meets n
    · exact rpc_Caller_Cancel.meets n
    · exact rpc_Callee_Take.meets n
    · exact rpc_Callee_Reply.meets n
    · exact law11_live.meets n
  · rintro ⟨a0, a1, ⟨⟩⟩ y h
    exact (law11_RpcOnce.ok n a0 a1).trans h
theorem law11_RpcOnce.meets (n : Nat) : Meets Try.prog (law11_RpcOnce.sp n) := (law11_RpcOnce.sound n).meets
/-! backwater/backwaterref11.NewCaller -/
abbrev r11_NewCaller.ps : List (Ty × Bool) := [(.int .u8, false), (.int .u32, false)]
abbrev r11_NewCaller.r : Ty := .opt TCaller'
abbrev r11_NewCaller.rs : List RV := [.t 4]
abbrev r11_NewCaller.R : Type := (rtOf r11_NewCaller.ps r11_NewCaller.r).den
noncomputable def r11_NewCaller.d (n : Nat) : XC :=
  (.seq (.reg (.op (.mv 4 (.c ⟨.nil 1, ()⟩)) none <| .nil)) <|
  (.seq (.seq (.reg (.op (.mv 5 (.t 0)) none <| .op (.bin 6 .lss (.t 5) (.c ⟨.int .u8, ((1 : Int) : Int)⟩)) none <| .op (.mv 7 (.t 6)) none <| .grp 7 false (.op (.mv 8 (.t 0)) (some ([0, 7, 8], [8])) <| .op (.bin 9 .gtr (.t 8) (.c ⟨.int .u8, ((3 : Int) : Int)⟩)) (some ([7, 8, 9], [9])) <| .nil) 9 10 [8, 9] <| .nil)) <|
  (.cond (.t 10)
  (.seq (.reg (.op (.mv 4 (.c ⟨.nil 1, ()⟩)) none <| .nil)) <|
  .ret)
  .skip)) <|
  (.seq (.reg (.op (.mv 11 (.t 0)) none <| .op (.mv 12 (.t 1)) none <| .op (.build 13 ⟨TCaller', (((0 : Int), (0 : Int), (0 : Int), false, ([] : List Int), (0 : Int), (0 : Int), ()) : DCaller')⟩ [(0, (.t 11), false), (1, (.t 12), false)]) none <| .op (.boxv 14 (.t 13)) none <| .op (.take 4 14) none <| .nil)) <|
  .ret)))
noncomputable abbrev r11_NewCaller.c (n : Nat) : XC := r11_NewCaller.d n
noncomputable def r11_NewCaller.f (n : Nat) (a0 : Int) (a1 : Int) : Option (Option DCaller') :=
  (bif (decide (a0 < (1 : Int))) then some true else (some (decide ((3 : Int) < a0)))).bind fun g1 =>
  bif g1 then (some none)
  else (some (some (a0, a1, (0 : Int), false, ([] : List Int), (0 : Int), (0 : Int), ())))
theorem r11_NewCaller.ok (n : Nat) (a0 : Int) (a1 : Int) : evFn (r11_NewCaller.c n) r11_NewCaller.rs r11_NewCaller.ps r11_NewCaller.r (a0, a1, ()) = r11_NewCaller.f n a0 a1 := by kernel_rfl
noncomputable def r11_NewCaller.sp (n : Nat) : FSpec := { f := 49, ps := r11_NewCaller.ps, r := r11_NewCaller.r, run := fun x => r11_NewCaller.f n x.1 x.2.1 }
theorem r11_NewCaller.calls (n : Nat) : (r11_NewCaller.c n).calls = [] := by kernel_rfl
theorem r11_NewCaller.fits (n : Nat) : fnB tab hd Try.f49 (r11_NewCaller.c n) r11_NewCaller.rs (r11_NewCaller.sp n).ps (r11_NewCaller.sp n).r = true := by kernel_rfl
theorem r11_NewCaller.sound (n : Nat) : Sound Try.prog (r11_NewCaller.sp n) := by
  refine fnB_sound tabOk eqFacts mixed (fn := Try.f49) (c := r11_NewCaller.c n) (rs := r11_NewCaller.rs) (by kernel_rfl) ?_ (r11_NewCaller.fits n) ?_
  · rw [r11_NewCaller.calls]
    intro s hs; cases hs
  · rintro ⟨a0, a1, ⟨⟩⟩ y h
    exact (r11_NewCaller.ok n a0 a1).trans h
theorem r11_NewCaller.meets (n : Nat) : Meets Try.prog (r11_NewCaller.sp n) := (r11_NewCaller.sound n).meets
/-! backwater/backwaterref11.NewCallee -/
abbrev r11_NewCallee.ps : List (Ty × Bool) := []
abbrev r11_NewCallee.r : Ty := .box TCallee'
abbrev r11_NewCallee.rs : List RV := [.t 0]
abbrev r11_NewCallee.R : Type := (rtOf r11_NewCallee.ps r11_NewCallee.r).den
noncomputable def r11_NewCallee.d (n : Nat) : XC :=
  (.seq (.reg (.op (.mv 0 (.c ⟨.nil 1, ()⟩)) none <| .nil)) <|
  (.seq (.reg (.op (.build 1 ⟨TCallee', (((List.replicate 4 ((0 : Int), (0 : Int), (0 : Int), ([] : List Int), ())), ()) : DCallee')⟩ []) none <| .op (.boxv 2 (.t 1)) none <| .op (.take 0 2) none <| .nil)) <|
  .ret))
noncomputable abbrev r11_NewCallee.c (n : Nat) : XC := r11_NewCallee.d n
noncomputable def r11_NewCallee.f (n : Nat)  : Option DCallee' :=
  some ((List.replicate 4 ((0 : Int), (0 : Int), (0 : Int), ([] : List Int), ())), ())
theorem r11_NewCallee.ok (n : Nat)  : evFn (r11_NewCallee.c n) r11_NewCallee.rs r11_NewCallee.ps r11_NewCallee.r () = r11_NewCallee.f n  := by kernel_rfl
noncomputable def r11_NewCallee.sp (n : Nat) : FSpec := { f := 26, ps := r11_NewCallee.ps, r := r11_NewCallee.r, run := fun x => r11_NewCallee.f n  }
theorem r11_NewCallee.calls (n : Nat) : (r11_NewCallee.c n).calls = [] := by kernel_rfl
theorem r11_NewCallee.fits (n : Nat) : fnB tab hd Try.f26 (r11_NewCallee.c n) r11_NewCallee.rs (r11_NewCallee.sp n).ps (r11_NewCallee.sp n).r = true := by kernel_rfl
theorem r11_NewCallee.sound (n : Nat) : Sound Try.prog (r11_NewCallee.sp n) := by
  refine fnB_sound tabOk eqFacts mixed (fn := Try.f26) (c := r11_NewCallee.c n) (rs := r11_NewCallee.rs) (by kernel_rfl) ?_ (r11_NewCallee.fits n) ?_
  · rw [r11_NewCallee.calls]
    intro s hs; cases hs
  · rintro ⟨⟩ y h
    exact (r11_NewCallee.ok n ).trans h
theorem r11_NewCallee.meets (n : Nat) : Meets Try.prog (r11_NewCallee.sp n) := (r11_NewCallee.sound n).meets
/-! backwater/backwaterlaw11.begun -/
abbrev law11_begun.ps : List (Ty × Bool) := []
abbrev law11_begun.r : Ty := .box (.pair (.opt TCaller) (.pair (.opt TCaller') (.pair (.box TCallee) (.pair (.box TCallee') (.pair TPacket .unit)))))
abbrev law11_begun.rs : List RV := [.t 0]
abbrev law11_begun.R : Type := (rtOf law11_begun.ps law11_begun.r).den
noncomputable def law11_begun.d (n : Nat) : XC :=
  (.seq (.reg (.op (.mv 0 (.c ⟨.nil 1, ()⟩)) none <| .nil)) <|
  (.seq (.reg (.op (.call (some 1) (rpc_NewCaller.sp n) [.v (.c ⟨.int .u8, ((2 : Int) : Int)⟩), .v (.c ⟨.int .u32, ((3 : Int) : Int)⟩)]) none <| .op (.call (some 2) (r11_NewCaller.sp n) [.v (.c ⟨.int .u8, ((2 : Int) : Int)⟩), .v (.c ⟨.int .u32, ((3 : Int) : Int)⟩)]) none <| .op (.call (some 3) (rpc_NewCallee.sp n) []) none <| .op (.call (some 4) (r11_NewCallee.sp n) []) none <| .op (.build 5 ⟨TPacket, (((0 : Int), (0 : Int), (0 : Int), (0 : Int), (0 : Int), ([] : List Int), ()) : DPacket)⟩ []) none <| .op (.build 6 ⟨.pair (.opt TCaller) (.pair (.opt TCaller') (.pair (.opt TCallee) (.pair (.opt TCallee') (.pair TPacket .unit)))), ((none, none, none, none, ((0 : Int), (0 : Int), (0 : Int), (0 : Int), (0 : Int), ([] : List Int), ()), ()) : (Option DCaller) × (Option DCaller') × (Option DCallee) × (Option DCallee') × DPacket × Unit)⟩ [(0, (.t 1), true), (1, (.t 2), true), (2, (.t 3), true), (3, (.t 4), true), (4, (.t 5), false)]) none <| .op (.boxT 7 6) none <| .op (.take 0 7) none <| .nil)) <|
  .ret))
noncomputable abbrev law11_begun.c (n : Nat) : XC := law11_begun.d n
noncomputable def law11_begun.f (n : Nat)  : Option ((Option DCaller) × (Option DCaller') × DCallee × DCallee' × DPacket × Unit) :=
  (rpc_NewCaller.f n (2 : Int) (3 : Int)).bind fun r1 => (r11_NewCaller.f n (2 : Int) (3 : Int)).bind fun r2 => (rpc_NewCallee.f n).bind fun r3 => (r11_NewCallee.f n).bind fun r4 => some (r1, r2, (r3.1, r3.2), (r4.1, r4.2), ((0 : Int), (0 : Int), (0 : Int), (0 : Int), (0 : Int), ([] : List Int), ()), ())
theorem law11_begun.ok (n : Nat)  : evFn (law11_begun.c n) law11_begun.rs law11_begun.ps law11_begun.r () = law11_begun.f n  := by kernel_rfl
noncomputable def law11_begun.sp (n : Nat) : FSpec := { f := 34, ps := law11_begun.ps, r := law11_begun.r, run := fun x => law11_begun.f n  }
theorem law11_begun.calls (n : Nat) : (law11_begun.c n).calls = [rpc_NewCaller.sp n, r11_NewCaller.sp n, rpc_NewCallee.sp n, r11_NewCallee.sp n] := by kernel_rfl
theorem law11_begun.fits (n : Nat) : fnB tab hd Try.f34 (law11_begun.c n) law11_begun.rs (law11_begun.sp n).ps (law11_begun.sp n).r = true := by kernel_rfl
theorem law11_begun.sound (n : Nat) : Sound Try.prog (law11_begun.sp n) := by
  refine fnB_sound tabOk eqFacts mixed (fn := Try.f34) (c := law11_begun.c n) (rs := law11_begun.rs) (by kernel_rfl) ?_ (law11_begun.fits n) ?_
  · rw [law11_begun.calls]
    intro s hs
    simp only [List.mem_cons, List.not_mem_nil, or_false] at hs
    rcases hs with rfl | rfl | rfl | rfl
    · exact rpc_NewCaller.meets n
    · exact r11_NewCaller.meets n
    · exact rpc_NewCallee.meets n
    · exact r11_NewCallee.meets n
  · rintro ⟨⟩ y h
    exact (law11_begun.ok n ).trans h
theorem law11_begun.meets (n : Nat) : Meets Try.prog (law11_begun.sp n) := (law11_begun.sound n).meets
/-! (*backwater/backwaterref11.Caller).Call -/
abbrev r11_Caller_Call.ps : List (Ty × Bool) := [(.opt TCaller', true), (.str, false)]
abbrev r11_Caller_Call.r : Ty := .int .i64
abbrev r11_Caller_Call.rs : List RV := [.t 4]
abbrev r11_Caller_Call.R : Type := (rtOf r11_Caller_Call.ps r11_Caller_Call.r).den
noncomputable def r11_Caller_Call.d1 (n : Nat) : XC :=
  (.seq (.reg (.op (.bor 23 0) none <| .op (.nilchk 24 (.t 23)) none <| .op (.fa 25 24 2 2) none <| .op (.ld 26 25 1 false) none <| .op (.bin 27 .add (.t 26) (.c ⟨.int .u32, ((1 : Int) : Int)⟩)) none <| .op (.nilchk 28 (.t 23)) none <| .op (.fa 29 28 2 2) none <| .op (.st 29 (.t 27) 1) none <| .nil)) <|
  (.seq (.reg (.op (.bor 30 0) none <| .op (.bor 31 0) none <| .op (.bor 32 0) none <| .op (.bor 33 0) none <| .op (.mv 34 (.t 1)) none <| .op (.nilchk 35 (.t 30)) none <| .op (.fa 36 35 3 3) none <| .op (.st 36 (.c ⟨.bool, (true : Bool)⟩) 1) none <| .op (.nilchk 37 (.t 31)) none <| .op (.fa 38 37 4 4) none <| .op (.st 38 (.t 34) 1) none <| .op (.nilchk 39 (.t 32)) none <| .op (.fa 40 39 5 5) none <| .op (.st 40 (.c ⟨.int .i64, ((0 : Int) : Int)⟩) 1) none <| .op (.nilchk 41 (.t 33)) none <| .op (.fa 42 41 6 6) none <| .op (.st 42 (.c ⟨.int .u64, ((0 : Int) : Int)⟩) 1) none <| .nil)) <|
  (.seq (.pre [.keep [0]] (.reg (.op (.mv 4 (.c ⟨.int .i64, ((0 : Int) : Int)⟩)) none <| .nil))) <|
  .ret)))
noncomputable abbrev r11_Caller_Call.c1 (n : Nat) : XC := r11_Caller_Call.d1 n
noncomputable def r11_Caller_Call.j1 (n : Nat) (x0 : DCaller') (x1 : List Int) : Option ((Option DCaller') × Int) :=
  some ((some (x0.1, x0.2.1, (IntKind.u32.wrap (x0.2.2.1 + (1 : Int))), true, x1, (0 : Int), (0 : Int), x0.2.2.2.2.2.2.2)), (0 : Int))
theorem r11_Caller_Call.s1 (n : Nat) (x0 : DCaller') (x1 : List Int) : ev (r11_Caller_Call.c1 n) [(0, some ⟨.box TCaller', x0⟩), (1, some ⟨.str, x1⟩)] (⟨retK r11_Caller_Call.rs r11_Caller_Call.ps r11_Caller_Call.r, []⟩ : Ks r11_Caller_Call.R) (retK r11_Caller_Call.rs r11_Caller_Call.ps r11_Caller_Call.r) = r11_Caller_Call.j1 n x0 x1 := by kernel_rfl
noncomputable def r11_Caller_Call.H1 (n : Nat) (X : XC) : St → Option r11_Caller_Call.R := fun st => ghK [.keep [0, 1]] st fun st => ev X st (⟨retK r11_Caller_Call.rs r11_Caller_Call.ps r11_Caller_Call.r, []⟩ : Ks r11_Caller_Call.R) (retK r11_Caller_Call.rs r11_Caller_Call.ps r11_Caller_Call.r)
noncomputable abbrev r11_Caller_Call.K1 (n : Nat) : St → Option r11_Caller_Call.R := r11_Caller_Call.H1 n (r11_Caller_Call.c1 n)
noncomputable def r11_Caller_Call.d (n : Nat) (X1 : XC) : XC :=
  (.seq (.reg (.op (.mv 4 (.c ⟨.int .i64, ((0 : Int) : Int)⟩)) none <| .nil)) <|
  (.seq (.aft (.block 0 (.seq (.pre [.split 0 []] (.reg (.op (.bor 6 0) none <| .op (.eqnil 7 (.t 6) false false) none <| .op (.mv 5 (.t 7)) none <| .nil))) <|
  (.cond (.t 5)
  (.seq (.reg (.op (.mv 4 (.c ⟨.int .i64, ((1 : Int) : Int)⟩)) none <| .nil)) <|
  .ret)
  (.seq (.reg (.op (.bor 9 0) none <| .op (.nilchk 10 (.t 9)) none <| .op (.fa 11 10 3 3) none <| .op (.ld 12 11 1 false) none <| .op (.mv 8 (.t 12)) none <| .nil)) <|
  (.cond (.t 8)
  (.seq (.reg (.op (.mv 4 (.c ⟨.int .i64, ((13 : Int) : Int)⟩)) none <| .nil)) <|
  .ret)
  (.seq (.reg (.op (.mv 14 (.t 1)) none <| .op (.len 15 (.t 14) true) none <| .op (.bin 16 .gtr (.t 15) (.c ⟨.int .i64, ((16384 : Int) : Int)⟩)) none <| .op (.mv 13 (.t 16)) none <| .nil)) <|
  (.cond (.t 13)
  (.seq (.pre [.keep [0]] (.reg (.op (.mv 4 (.c ⟨.int .i64, ((3 : Int) : Int)⟩)) none <| .nil))) <|
  .ret)
  (.seq (.pre [.keep [0, 1]] (.reg (.op (.bor 18 0) none <| .op (.nilchk 19 (.t 18)) none <| .op (.fa 20 19 2 2) none <| .op (.ld 21 20 1 false) none <| .op (.bin 22 .eql (.t 21) (.c ⟨.int .u32, ((4294967295 : Int) : Int)⟩)) none <| .op (.mv 17 (.t 22)) none <| .nil))) <|
  (.cond (.t 17)
  (.seq (.reg (.op (.mv 4 (.c ⟨.int .i64, ((2 : Int) : Int)⟩)) none <| .nil)) <|
  .ret)
  .skip))))))))) [.keep [0, 1]]) X1))
noncomputable abbrev r11_Caller_Call.c (n : Nat) : XC := r11_Caller_Call.d n (r11_Caller_Call.c1 n)
noncomputable def r11_Caller_Call.f (n : Nat) (a0 : Option DCaller') (a1 : List Int) : Option ((Option DCaller') × Int) :=
  optM a0 (some (none, (1 : Int))) fun p1 => bif p1.2.2.2.1 then (some ((some (p1.1, p1.2.1, p1.2.2.1, p1.2.2.2.1, p1.2.2.2.2.1, p1.2.2.2.2.2.1, p1.2.2.2.2.2.2.1, p1.2.2.2.2.2.2.2)), (13 : Int)))
  else (bif (decide ((16384 : Int) < (a1.length : Int))) then (some ((some (p1.1, p1.2.1, p1.2.2.1, p1.2.2.2.1, p1.2.2.2.2.1, p1.2.2.2.2.2.1, p1.2.2.2.2.2.2.1, p1.2.2.2.2.2.2.2)), (3 : Int)))
  else (bif (decide (p1.2.2.1 = (4294967295 : Int))) then (some ((some (p1.1, p1.2.1, p1.2.2.1, p1.2.2.2.1, p1.2.2.2.2.1, p1.2.2.2.2.2.1, p1.2.2.2.2.2.2.1, p1.2.2.2.2.2.2.2)), (2 : Int)))
  else (r11_Caller_Call.j1 n (p1.1, p1.2.1, p1.2.2.1, p1.2.2.2.1, p1.2.2.2.2.1, p1.2.2.2.2.2.1, p1.2.2.2.2.2.2.1, p1.2.2.2.2.2.2.2) a1)))
theorem r11_Caller_Call.w (n : Nat) (a0 : Option DCaller') (a1 : List Int) (X1 : XC) : evFn (r11_Caller_Call.d n X1) r11_Caller_Call.rs r11_Caller_Call.ps r11_Caller_Call.r (a0, a1, ()) =
  (optM a0 (some (none, (1 : Int))) fun p1 => bif p1.2.2.2.1 then (some ((some (p1.1, p1.2.1, p1.2.2.1, p1.2.2.2.1, p1.2.2.2.2.1, p1.2.2.2.2.2.1, p1.2.2.2.2.2.2.1, p1.2.2.2.2.2.2.2)), (13 : Int)))
  else (bif (decide ((16384 : Int) < (a1.length : Int))) then (some ((some (p1.1, p1.2.1, p1.2.2.1, p1.2.2.2.1, p1.2.2.2.2.1, p1.2.2.2.2.2.1, p1.2.2.2.2.2.2.1, p1.2.2.2.2.2.2.2)), (3 : Int)))
  else (bif (decide (p1.2.2.1 = (4294967295 : Int))) then (some ((some (p1.1, p1.2.1, p1.2.2.1, p1.2.2.2.1, p1.2.2.2.2.1, p1.2.2.2.2.2.1, p1.2.2.2.2.2.2.1, p1.2.2.2.2.2.2.2)), (2 : Int)))
  else (ev X1 [(0, some ⟨.box TCaller', ((p1.1, p1.2.1, p1.2.2.1, p1.2.2.2.1, p1.2.2.2.2.1, p1.2.2.2.2.2.1, p1.2.2.2.2.2.2.1, p1.2.2.2.2.2.2.2) : DCaller')⟩), (1, some ⟨.str, a1⟩)] (⟨retK r11_Caller_Call.rs r11_Caller_Call.ps r11_Caller_Call.r, []⟩ : Ks r11_Caller_Call.R) (retK r11_Caller_Call.rs r11_Caller_Call.ps r11_Caller_Call.r)))) : Option r11_Caller_Call.R) := by kernel_rfl
theorem r11_Caller_Call.ok (n : Nat) (a0 : Option DCaller') (a1 : List Int) : evFn (r11_Caller_Call.c n) r11_Caller_Call.rs r11_Caller_Call.ps r11_Caller_Call.r (a0, a1, ()) = r11_Caller_Call.f n a0 a1 := (r11_Caller_Call.w n a0 a1 (r11_Caller_Call.c1 n)).trans (by simp only [r11_Caller_Call.f, r11_Caller_Call.s1 n] <;> kernel_rfl)
noncomputable def r11_Caller_Call.sp (n : Nat) : FSpec := { f := 38, ps := r11_Caller_Call.ps, r := r11_Caller_Call.r, run := fun x => r11_Caller_Call.f n x.1 x.2.1 }
theorem r11_Caller_Call.calls (n : Nat) : (r11_Caller_Call.c n).calls = [] := by kernel_rfl
theorem r11_Caller_Call.fits (n : Nat) : fnB tab hd Try.f38 (r11_Caller_Call.c n) r11_Caller_Call.rs (r11_Caller_Call.sp n).ps (r11_Caller_Call.sp n).r = true := by kernel_rfl
theorem r11_Caller_Call.sound (n : Nat) : Sound Try.prog (r11_Caller_Call.sp n) := by
  refine fnB_sound tabOk eqFacts mixed (fn := Try.f38) (c := r11_Caller_Call.c n) (rs := r11_Caller_Call.rs) (by kernel_rfl) ?_ (r11_Caller_Call.fits n) ?_
  · rw [r11_Caller_Call.calls]
    intro s hs; cases hs
  · rintro ⟨a0, a1, ⟨⟩⟩ y h
    exact (r11_Caller_Call.ok n a0 a1).trans h
theorem r11_Caller_Call.meets (n : Nat) : Meets Try.prog (r11_Caller_Call.sp n) := (r11_Caller_Call.sound n).meets
/-! (*backwater/backwaterref11.Caller).Tick -/
abbrev r11_Caller_Tick.ps : List (Ty × Bool) := [(.opt TCaller', true), (.int .u64, false)]
abbrev r11_Caller_Tick.r : Ty := .tup (.pair TPacket (.pair .bool .unit))
abbrev r11_Caller_Tick.rs : List RV := [.c 4 6 true, .t 5]
abbrev r11_Caller_Tick.R : Type := (rtOf r11_Caller_Tick.ps r11_Caller_Tick.r).den
noncomputable def r11_Caller_Tick.d (n : Nat) : XC :=
  (.seq (.reg (.op (.alloc 4 ⟨TPacket, (((0 : Int), (0 : Int), (0 : Int), (0 : Int), (0 : Int), ([] : List Int), ()) : DPacket)⟩) none <| .op (.mv 5 (.c ⟨.bool, (false : Bool)⟩)) none <| .nil)) <|
  (.seq (.seq (.pre [.split 0 []] (.reg (.op (.bor 6 0) none <| .op (.eqnil 7 (.t 6) false false) none <| .op (.mv 8 (.t 7)) none <| .grp 8 false (.op (.bor 9 0) (some ([0, 8, 9], [9])) <| .op (.nilchk 10 (.t 9)) (some ([0, 8, 9, 10], [10])) <| .op (.fa 11 10 3 3) (some ([0, 8, 10, 11], [11])) <| .op (.ld 12 11 1 false) (some ([0, 8, 11, 12], [12])) <| .op (.un 13 .not (.t 12)) (some ([8, 12, 13], [13])) <| .nil) 13 14 [9, 10, 11, 12, 13] <| .op (.mv 15 (.t 14)) none <| .grp 15 false (.op (.bor 16 0) (some ([0, 15, 16], [16])) <| .op (.nilchk 17 (.t 16)) (some ([0, 15, 16, 17], [17])) <| .op (.fa 18 17 5 5) (some ([0, 15, 17, 18], [18])) <| .op (.ld 19 18 1 false) (some ([0, 15, 18, 19], [19])) <| .op (.bin 20 .gtr (.t 19) (.c ⟨.int .i64, ((0 : Int) : Int)⟩)) (some ([15, 19, 20], [20])) <| .op (.mv 21 (.t 20)) (some ([15, 20, 21], [21])) <| .grp 21 true (.op (.mv 22 (.t 1)) (some ([1, 21, 22], [22])) <| .op (.bor 23 0) (some ([0, 21, 23], [23])) <| .op (.nilchk 24 (.t 23)) (some ([0, 21, 23, 24], [24])) <| .op (.fa 25 24 6 6) (some ([0, 21, 24, 25], [25])) <| .op (.ld 26 25 1 false) (some ([0, 21, 25, 26], [26])) <| .op (.bin 27 .lss (.t 22) (.t 26)) (some ([21, 22, 26, 27], [27])) <| .op (.mv 28 (.t 27)) (some ([21, 27, 28], [28])) <| .grp 28 false (.op (.mv 29 (.t 1)) (some ([1, 28, 29], [29])) <| .op (.bor 30 0) (some ([0, 28, 30], [30])) <| .op (.nilchk 31 (.t 30)) (some ([0, 28, 30, 31], [31])) <| .op (.fa 32 31 6 6) (some ([0, 28, 31, 32], [32])) <| .op (.ld 33 32 1 false) (some ([0, 28, 32, 33], [33])) <| .op (.bin 34 .sub (.t 29) (.t 33)) (some ([28, 29, 33, 34], [34])) <| .op (.bin 35 .lss (.t 34) (.c ⟨.int .u64, ((4 : Int) : Int)⟩)) (some ([28, 34, 35], [35])) <| .nil) 35 36 [29, 30, 31, 32, 33, 34, 35] <| .nil) 36 37 [22, 23, 24, 25, 26, 27, 28, 29, 30, 31, 32, 33, 34, 35, 36] <| .nil) 37 38 [16, 17, 18, 19, 20, 21, 22, 23, 24, 25, 26, 27, 28, 29, 30, 31, 32, 33, 34, 35, 36, 37] <| .nil))) <|
  (.cond (.t 38)
  (.seq (.reg (.op (.build 39 ⟨TPacket, (((0 : Int), (0 : Int), (0 : Int), (0 : Int), (0 : Int), ([] : List Int), ()) : DPacket)⟩ []) none <| .op (.st 4 (.t 39) 6) none <| .op (.mv 5 (.c ⟨.bool, (false : Bool)⟩)) none <| .nil)) <|
  .ret)
  .skip)) <|
  (.seq (.reg (.op (.bor 40 0) none <| .op (.nilchk 41 (.t 40)) none <| .op (.fa 42 41 5 5) none <| .op (.ld 43 42 1 false) none <| .op (.bin 44 .add (.t 43) (.c ⟨.int .i64, ((1 : Int) : Int)⟩)) none <| .op (.nilchk 45 (.t 40)) none <| .op (.fa 46 45 5 5) none <| .op (.st 46 (.t 44) 1) none <| .nil)) <|
  (.seq (.pre [.keep [0, 1, 4]] (.reg (.op (.bor 47 0) none <| .op (.mv 48 (.t 1)) none <| .op (.nilchk 49 (.t 47)) none <| .op (.fa 50 49 6 6) none <| .op (.st 50 (.t 48) 1) none <| .nil))) <|
  (.seq (.regD (.op (.bor 51 0) (some ([0, 51], [51])) <| .op (.nilchk 52 (.t 51)) (some ([0, 51, 52], [52])) <| .op (.fa 53 52 0 0) (some ([0, 52, 53], [53])) <| .op (.ld 54 53 1 false) (some ([0, 53, 54], [54])) <| .op (.bor 55 0) (some ([0, 55], [55])) <| .op (.nilchk 56 (.t 55)) (some ([0, 55, 56], [56])) <| .op (.fa 57 56 1 1) (some ([0, 56, 57], [57])) <| .op (.ld 58 57 1 false) (some ([0, 57, 58], [58])) <| .op (.bor 59 0) (some ([0, 59], [59])) <| .op (.nilchk 60 (.t 59)) (some ([0, 59, 60], [60])) <| .op (.fa 61 60 2 2) (some ([0, 60, 61], [61])) <| .op (.ld 62 61 1 false) (some ([0, 61, 62], [62])) <| .op (.bor 63 0) (some ([0, 63], [63])) <| .op (.nilchk 64 (.t 63)) (some ([0, 63, 64], [64])) <| .op (.fa 65 64 4 4) (some ([0, 64, 65], [65])) <| .op (.ld 66 65 1 false) (some ([0, 65, 66], [66])) <| .op (.build 67 ⟨TPacket, (((0 : Int), (0 : Int), (0 : Int), (0 : Int), (0 : Int), ([] : List Int), ()) : DPacket)⟩ [(0, (.c ⟨.int .u8, ((1 : Int) : Int)⟩), false), (1, (.t 54), false), (3, (.t 58), false), (4, (.t 62), false), (5, (.t 66), false)]) (some ([54, 58, 62, 66, 67], [67])) <| .op (.st 4 (.t 67) 6) (some ([4, 67], [4])) <| .op (.mv 5 (.c ⟨.bool, (true : Bool)⟩)) (some ([5], [5])) <| .nil)) <|
  .ret)))))
noncomputable abbrev r11_Caller_Tick.c (n : Nat) : XC := r11_Caller_Tick.d n
noncomputable def r11_Caller_Tick.f (n : Nat) (a0 : Option DCaller') (a1 : Int) : Option ((Option DCaller') × (DPacket × Bool × Unit)) :=
  optM a0 (some (none, ((0 : Int), (0 : Int), (0 : Int), (0 : Int), (0 : Int), ([] : List Int), ()), false, ())) fun p1 => (some (!p1.2.2.2.1)).bind fun g2 =>
  (bif g2 then some true else ((bif (decide ((0 : Int) < p1.2.2.2.2.2.1)) then ((bif (decide (a1 < p1.2.2.2.2.2.2.1)) then some true else (some (decide ((IntKind.u64.wrap (a1 - p1.2.2.2.2.2.2.1)) < (4 : Int))))).bind fun g5 =>
  some g5) else some false).bind fun g4 =>
  some g4)).bind fun g3 =>
  bif g3 then (some ((some (p1.1, p1.2.1, p1.2.2.1, p1.2.2.2.1, p1.2.2.2.2.1, p1.2.2.2.2.2.1, p1.2.2.2.2.2.2.1, p1.2.2.2.2.2.2.2)), ((0 : Int), (0 : Int), (0 : Int), (0 : Int), (0 : Int), ([] : List Int), ()), false, ()))
  else (some ((some (p1.1, p1.2.1, p1.2.2.1, p1.2.2.2.1, p1.2.2.2.2.1, (IntKind.i64.wrap (p1.2.2.2.2.2.1 + (1 : Int))), a1, p1.2.2.2.2.2.2.2)), ((1 : Int), p1.1, (0 : Int), p1.2.1, p1.2.2.1, p1.2.2.2.2.1, ()), true, ()))
theorem r11_Caller_Tick.ok (n : Nat) (a0 : Option DCaller') (a1 : Int) : evFn (r11_Caller_Tick.c n) r11_Caller_Tick.rs r11_Caller_Tick.ps r11_Caller_Tick.r (a0, a1, ()) = r11_Caller_Tick.f n a0 a1 := by kernel_rfl
noncomputable def r11_Caller_Tick.sp (n : Nat) : FSpec := { f := 39, ps := r11_Caller_Tick.ps, r := r11_Caller_Tick.r, run := fun x => r11_Caller_Tick.f n x.1 x.2.1 }
theorem r11_Caller_Tick.calls (n : Nat) : (r11_Caller_Tick.c n).calls = [] := by kernel_rfl
theorem r11_Caller_Tick.fits (n : Nat) : fnB tab hd Try.f39 (r11_Caller_Tick.c n) r11_Caller_Tick.rs (r11_Caller_Tick.sp n).ps (r11_Caller_Tick.sp n).r = true := by kernel_rfl
theorem r11_Caller_Tick.sound (n : Nat) : Sound Try.prog (r11_Caller_Tick.sp n) := by
  refine fnB_sound tabOk eqFacts mixed (fn := Try.f39) (c := r11_Caller_Tick.c n) (rs := r11_Caller_Tick.rs) (by kernel_rfl) ?_ (r11_Caller_Tick.fits n) ?_
  · rw [r11_Caller_Tick.calls]
    intro s hs; cases hs
  · rintro ⟨a0, a1, ⟨⟩⟩ y h
    exact (r11_Caller_Tick.ok n a0 a1).trans h
theorem r11_Caller_Tick.meets (n : Nat) : Meets Try.prog (r11_Caller_Tick.sp n) := (r11_Caller_Tick.sound n).meets
/-! backwater/backwaterref03.Right -/
abbrev r03_Right.ps : List (Ty × Bool) := [(TPacket, false)]
abbrev r03_Right.r : Ty := .bool
abbrev r03_Right.rs : List RV := [.t 2]
abbrev r03_Right.R : Type := (rtOf r03_Right.ps r03_Right.r).den
noncomputable def r03_Right.d (n : Nat) : XC :=
  (.seq (.reg (.op (.boxv 1 (.t 0)) none <| .op (.mv 2 (.c ⟨.bool, (false : Bool)⟩)) none <| .nil)) <|
  (.seq (.seq (.reg (.op (.fa 3 1 1 1) none <| .op (.ld 4 3 1 false) none <| .op (.bin 5 .gtr (.t 4) (.c ⟨.int .u8, ((3 : Int) : Int)⟩)) none <| .op (.mv 6 (.t 5)) none <| .grp 6 false (.op (.fa 7 1 2 2) (some ([1, 6, 7], [7])) <| .op (.ld 8 7 1 false) (some ([1, 6, 7, 8], [8])) <| .op (.bin 9 .gtr (.t 8) (.c ⟨.int .u8, ((3 : Int) : Int)⟩)) (some ([6, 8, 9], [9])) <| .nil) 9 10 [7, 8, 9] <| .op (.mv 11 (.t 10)) none <| .grp 11 false (.op (.fa 12 1 4 4) (some ([1, 11, 12], [12])) <| .op (.ld 13 12 1 false) (some ([1, 11, 12, 13], [13])) <| .op (.bin 14 .eql (.t 13) (.c ⟨.int .u32, ((0 : Int) : Int)⟩)) (some ([11, 13, 14], [14])) <| .nil) 14 15 [12, 13, 14] <| .op (.mv 16 (.t 15)) none <| .grp 16 false (.op (.fa 17 1 5 5) (some ([1, 16, 17], [17])) <| .op (.ld 18 17 1 false) (some ([1, 16, 17, 18], [18])) <| .op (.len 19 (.t 18) true) (some ([16, 18, 19], [19])) <| .op (.bin 20 .gtr (.t 19) (.c ⟨.int .i64, ((16384 : Int) : Int)⟩)) (some ([16, 19, 20], [20])) <| .nil) 20 21 [17, 18, 19, 20] <| .nil)) <|
  (.cond (.t 21)
  (.seq (.pre [.keep []] (.reg (.op (.mv 2 (.c ⟨.bool, (false : Bool)⟩)) none <| .nil))) <|
  .ret)
  .skip)) <|
  (.seq (.pre [.keep [1]] (.reg (.op (.fa 22 1 0 0) none <| .op (.ld 23 22 1 false) none <| .op (.bin 24 .eql (.t 23) (.c ⟨.int .u8, ((1 : Int) : Int)⟩)) none <| .op (.mv 25 (.t 24)) none <| .grp 25 true (.op (.fa 26 1 2 2) (some ([1, 25, 26], [26])) <| .op (.ld 27 26 1 false) (some ([1, 25, 26, 27], [27])) <| .op (.bin 28 .eql (.t 27) (.c ⟨.int .u8, ((0 : Int) : Int)⟩)) (some ([25, 27, 28], [28])) <| .nil) 28 29 [26, 27, 28] <| .op (.mv 30 (.t 29)) none <| .grp 30 true (.op (.fa 31 1 1 1) (some ([1, 30, 31], [31])) <| .op (.ld 32 31 1 false) (some ([1, 30, 31, 32], [32])) <| .op (.bin 33 .neq (.t 32) (.c ⟨.int .u8, ((0 : Int) : Int)⟩)) (some ([30, 32, 33], [33])) <| .nil) 33 34 [31, 32, 33] <| .op (.mv 35 (.t 34)) none <| .grp 35 false (.op (.fa 36 1 0 0) (some ([1, 35, 36], [36])) <| .op (.ld 37 36 1 false) (some ([1, 35, 36, 37], [37])) <| .op (.bin 38 .eql (.t 37) (.c ⟨.int .u8, ((2 : Int) : Int)⟩)) (some ([35, 37, 38], [38])) <| .op (.mv 39 (.t 38)) (some ([35, 38, 39], [39])) <| .grp 39 true (.op (.fa 40 1 1 1) (some ([1, 39, 40], [40])) <| .op (.ld 41 40 1 false) (some ([1, 39, 40, 41], [41])) <| .op (.bin 42 .eql (.t 41) (.c ⟨.int .u8, ((0 : Int) : Int)⟩)) (some ([39, 41, 42], [42])) <| .nil) 42 43 [40, 41, 42] <| .op (.mv 44 (.t 43)) (some ([35, 43, 44], [44])) <| .grp 44 true (.op (.fa 45 1 2 2) (some ([1, 44, 45], [45])) <| .op (.ld 46 45 1 false) (some ([1, 44, 45, 46], [46])) <| .op (.bin 47 .neq (.t 46) (.c ⟨.int .u8, ((0 : Int) : Int)⟩)) (some ([44, 46, 47], [47])) <| .nil) 47 48 [45, 46, 47] <| .nil) 48 49 [36, 37, 38, 39, 40, 41, 42, 43, 44, 45, 46, 47, 48] <| .op (.mv 2 (.t 49)) none <| .nil))) <|
  .ret)))
noncomputable abbrev r03_Right.c (n : Nat) : XC := r03_Right.d n
noncomputable def r03_Right.f (n : Nat) (a0 : DPacket) : Option Bool :=
  (bif (decide ((3 : Int) < a0.2.1)) then some true else (some (decide ((3 : Int) < a0.2.2.1)))).bind fun g1 =>
  (bif g1 then some true else (some (decide (a0.2.2.2.2.1 = (0 : Int))))).bind fun g2 =>
  (bif g2 then some true else (some (decide ((16384 : Int) < (a0.2.2.2.2.2.1.length : Int))))).bind fun g3 =>
  bif g3 then (some false)
  else ((bif (decide (a0.1 = (1 : Int))) then (some (decide (a0.2.2.1 = (0 : Int)))) else some false).bind fun g4 =>
  (bif g4 then (some (!decide (a0.2.1 = (0 : Int)))) else some false).bind fun g5 =>
  (bif g5 then some true else ((bif (decide (a0.1 = (2 : Int))) then (some (decide (a0.2.1 = (0 : Int)))) else some false).bind fun g7 =>
  (bif g7 then (some (!decide (a0.2.2.1 = (0 : Int)))) else some false).bind fun g8 =>
  some g8)).bind fun g6 =>
  some g6)
theorem r03_Right.ok (n : Nat) (a0 : DPacket) : evFn (r03_Right.c n) r03_Right.rs r03_Right.ps r03_Right.r (a0, ()) = r03_Right.f n a0 := by kernel_rfl
noncomputable def r03_Right.sp (n : Nat) : FSpec := { f := 47, ps := r03_Right.ps, r := r03_Right.r, run := fun x => r03_Right.f n x.1 }
theorem r03_Right.calls (n : Nat) : (r03_Right.c n).calls = [] := by kernel_rfl
theorem r03_Right.fits (n : Nat) : fnB tab hd Try.f47 (r03_Right.c n) r03_Right.rs (r03_Right.sp n).ps (r03_Right.sp n).r = true := by kernel_rfl
theorem r03_Right.sound (n : Nat) : Sound Try.prog (r03_Right.sp n) := by
  refine fnB_sound tabOk eqFacts mixed (fn := Try.f47) (c := r03_Right.c n) (rs := r03_Right.rs) (by kernel_rfl) ?_ (r03_Right.fits n) ?_
  · rw [r03_Right.calls]
    intro s hs; cases hs
  · rintro ⟨a0, ⟨⟩⟩ y h
    exact (r03_Right.ok n a0).trans h
theorem r03_Right.meets (n : Nat) : Meets Try.prog (r03_Right.sp n) := (r03_Right.sound n).meets
/-! (*backwater/backwaterref11.Caller).Take -/
abbrev r11_Caller_Take.ps : List (Ty × Bool) := [(.opt TCaller', true), (TPacket, false)]
abbrev r11_Caller_Take.r : Ty := .tup (.pair .str (.pair .bool .unit))
abbrev r11_Caller_Take.rs : List RV := [.t 4, .t 5]
abbrev r11_Caller_Take.R : Type := (rtOf r11_Caller_Take.ps r11_Caller_Take.r).den
noncomputable def r11_Caller_Take.d (n : Nat) : XC :=
  (.seq (.reg (.op (.boxv 3 (.t 1)) none <| .op (.mv 4 (.c ⟨.str, (([] : List Int) : List Int)⟩)) none <| .op (.mv 5 (.c ⟨.bool, (false : Bool)⟩)) none <| .nil)) <|
  (.seq (.seq (.pre [.split 0 []] (.regD (.op (.bor 6 0) (some ([0, 6], [6])) <| .op (.eqnil 7 (.t 6) false false) (some ([0, 6, 7], [7])) <| .op (.mv 8 (.t 7)) (some ([7, 8], [8])) <| .grp 8 false (.op (.bor 9 0) (some ([0, 8, 9], [9])) <| .op (.nilchk 10 (.t 9)) (some ([0, 8, 9, 10], [10])) <| .op (.fa 11 10 3 3) (some ([0, 8, 10, 11], [11])) <| .op (.ld 12 11 1 false) (some ([0, 8, 11, 12], [12])) <| .op (.un 13 .not (.t 12)) (some ([8, 12, 13], [13])) <| .nil) 13 14 [9, 10, 11, 12, 13] <| .op (.mv 15 (.t 14)) (some ([14, 15], [15])) <| .grp 15 false (.op (.ld 16 3 6 true) (some ([3, 15, 16], [16])) <| .op (.call (some 17) (r03_Right.sp n) [.v (.t 16)]) (some ([15, 16, 17], [17])) <| .op (.un 18 .not (.t 17)) (some ([15, 17, 18], [18])) <| .nil) 18 19 [16, 17, 18] <| .op (.mv 20 (.t 19)) (some ([19, 20], [20])) <| .grp 20 false (.op (.fa 21 3 0 0) (some ([3, 20, 21], [21])) <| .op (.ld 22 21 1 false) (some ([3, 20, 21, 22], [22])) <| .op (.bin 23 .neq (.t 22) (.c ⟨.int .u8, ((2 : Int) : Int)⟩)) (some ([20, 22, 23], [23])) <| .nil) 23 24 [21, 22, 23] <| .op (.mv 25 (.t 24)) (some ([24, 25], [25])) <| .grp 25 false (.op (.fa 26 3 2 2) (some ([3, 25, 26], [26])) <| .op (.ld 27 26 1 false) (some ([3, 25, 26, 27], [27])) <| .op (.bor 28 0) (some ([0, 25, 28], [28])) <| .op (.nilchk 29 (.t 28)) (some ([0, 25, 28, 29], [29])) <| .op (.fa 30 29 0 0) (some ([0, 25, 29, 30], [30])) <| .op (.ld 31 30 1 false) (some ([0, 25, 30, 31], [31])) <| .op (.bin 32 .neq (.t 27) (.t 31)) (some ([25, 27, 31, 32], [32])) <| .nil) 32 33 [26, 27, 28, 29, 30, 31, 32] <| .op (.mv 34 (.t 33)) (some ([33, 34], [34])) <| .grp 34 false (.op (.fa 35 3 3 3) (some ([3, 34, 35], [35])) <| .op (.ld 36 35 1 false) (some ([3, 34, 35, 36], [36])) <| .op (.bor 37 0) (some ([0, 34, 37], [37])) <| .op (.nilchk 38 (.t 37)) (some ([0, 34, 37, 38], [38])) <| .op (.fa 39 38 1 1) (some ([0, 34, 38, 39], [39])) <| .op (.ld 40 39 1 false) (some ([0, 34, 39, 40], [40])) <| .op (.bin 41 .neq (.t 36) (.t 40)) (some ([34, 36, 40, 41], [41])) <| .nil) 41 42 [35, 36, 37, 38, 39, 40, 41] <| .op (.mv 43 (.t 42)) (some ([42, 43], [43])) <| .grp 43 false (.op (.fa 44 3 4 4) (some ([3, 43, 44], [44])) <| .op (.ld 45 44 1 false) (some ([3, 43, 44, 45], [45])) <| .op (.bor 46 0) (some ([0, 43, 46], [46])) <| .op (.nilchk 47 (.t 46)) (some ([0, 43, 46, 47], [47])) <| .op (.fa 48 47 2 2) (some ([0, 43, 47, 48], [48])) <| .op (.ld 49 48 1 false) (some ([0, 43, 48, 49], [49])) <| .op (.bin 50 .neq (.t 45) (.t 49)) (some ([43, 45, 49, 50], [50])) <| .nil) 50 51 [44, 45, 46, 47, 48, 49, 50] <| .nil))) <|
  (.cond (.t 51)
  (.seq (.pre [.keep [0]] (.reg (.op (.mv 4 (.c ⟨.str, (([] : List Int) : List Int)⟩)) none <| .op (.mv 5 (.c ⟨.bool, (false : Bool)⟩)) none <| .nil))) <|
  .ret)
  .skip)) <|
  (.seq (.pre [.keep [0, 3]] (.reg (.op (.bor 52 0) none <| .op (.nilchk 53 (.t 52)) none <| .op (.fa 54 53 3 3) none <| .op (.st 54 (.c ⟨.bool, (false : Bool)⟩) 1) none <| .nil))) <|
  (.seq (.reg (.op (.fa 55 3 5 5) none <| .op (.ld 56 55 1 false) none <| .op (.mv 4 (.t 56)) none <| .op (.mv 5 (.c ⟨.bool, (true : Bool)⟩)) none <| .nil)) <|
  .ret))))
noncomputable abbrev r11_Caller_Take.c (n : Nat) : XC := r11_Caller_Take.d n
noncomputable def r11_Caller_Take.f (n : Nat) (a0 : Option DCaller') (a1 : DPacket) : Option ((Option DCaller') × ((List Int) × Bool × Unit)) :=
  optM a0 (some (none, ([] : List Int), false, ())) fun p1 => (some (!p1.2.2.2.1)).bind fun g2 =>
  (bif g2 then some true else ((r03_Right.f n (a1.1, a1.2.1, a1.2.2.1, a1.2.2.2.1, a1.2.2.2.2.1, a1.2.2.2.2.2.1, a1.2.2.2.2.2.2)).bind fun r4 => some (!r4))).bind fun g3 =>
  (bif g3 then some true else (some (!decide (a1.1 = (2 : Int))))).bind fun g5 =>
  (bif g5 then some true else (some (!decide (a1.2.2.1 = p1.1)))).bind fun g6 =>
  (bif g6 then some true else (some (!decide (a1.2.2.2.1 = p1.2.1)))).bind fun g7 =>
  (bif g7 then some true else (some (!decide (a1.2.2.2.2.1 = p1.2.2.1)))).bind fun g8 =>
  bif g8 then (some ((some (p1.1, p1.2.1, p1.2.2.1, p1.2.2.2.1, p1.2.2.2.2.1, p1.2.2.2.2.2.1, p1.2.2.2.2.2.2.1, p1.2.2.2.2.2.2.2)), ([] : List Int), false, ()))
  else (some ((some (p1.1, p1.2.1, p1.2.2.1, false, p1.2.2.2.2.1, p1.2.2.2.2.2.1, p1.2.2.2.2.2.2.1, p1.2.2.2.2.2.2.2)), a1.2.2.2.2.2.1, true, ()))
theorem r11_Caller_Take.ok (n : Nat) (a0 : Option DCaller') (a1 : DPacket) : evFn (r11_Caller_Take.c n) r11_Caller_Take.rs r11_Caller_Take.ps r11_Caller_Take.r (a0, a1, ()) = r11_Caller_Take.f n a0 a1 := by kernel_rfl
noncomputable def r11_Caller_Take.sp (n : Nat) : FSpec := { f := 40, ps := r11_Caller_Take.ps, r := r11_Caller_Take.r, run := fun x => r11_Caller_Take.f n x.1 x.2.1 }
theorem r11_Caller_Take.calls (n : Nat) : (r11_Caller_Take.c n).calls = [r03_Right.sp n] := by kernel_rfl
theorem r11_Caller_Take.fits (n : Nat) : fnB tab hd Try.f40 (r11_Caller_Take.c n) r11_Caller_Take.rs (r11_Caller_Take.sp n).ps (r11_Caller_Take.sp n).r = true := by kernel_rfl
theorem r11_Caller_Take.sound (n : Nat) : Sound Try.prog (r11_Caller_Take.sp n) := by
  refine fnB_sound tabOk eqFacts mixed (fn := Try.f40) (c := r11_Caller_Take.c n) (rs := r11_Caller_Take.rs) (by kernel_rfl) ?_ (r11_Caller_Take.fits n) ?_
  · rw [r11_Caller_Take.calls]
    intro s hs
    simp only [List.mem_cons, List.not_mem_nil, or_false] at hs
    rcases hs with rfl
    · exact r03_Right.meets n
  · rintro ⟨a0, a1, ⟨⟩⟩ y h
    exact (r11_Caller_Take.ok n a0 a1).trans h
theorem r11_Caller_Take.meets (n : Nat) : Meets Try.prog (r11_Caller_Take.sp n) := (r11_Caller_Take.sound n).meets
/-! (*backwater/backwaterref11.Caller).Cancel -/
abbrev r11_Caller_Cancel.ps : List (Ty × Bool) := [(.opt TCaller', true)]
abbrev r11_Caller_Cancel.r : Ty := .int .i64
abbrev r11_Caller_Cancel.rs : List RV := [.t 2]
abbrev r11_Caller_Cancel.R : Type := (rtOf r11_Caller_Cancel.ps r11_Caller_Cancel.r).den
noncomputable def r11_Caller_Cancel.d1 (n : Nat) : XC :=
  (.seq (.reg (.op (.bor 12 0) none <| .op (.nilchk 13 (.t 12)) none <| .op (.fa 14 13 3 3) none <| .op (.st 14 (.c ⟨.bool, (false : Bool)⟩) 1) none <| .nil)) <|
  (.seq (.reg (.op (.mv 2 (.c ⟨.int .i64, ((0 : Int) : Int)⟩)) none <| .nil)) <|
  .ret))
noncomputable abbrev r11_Caller_Cancel.c1 (n : Nat) : XC := r11_Caller_Cancel.d1 n
noncomputable def r11_Caller_Cancel.j1 (n : Nat) (x0 : DCaller') : Option ((Option DCaller') × Int) :=
  some ((some (x0.1, x0.2.1, x0.2.2.1, false, x0.2.2.2.2.1, x0.2.2.2.2.2.1, x0.2.2.2.2.2.2.1, x0.2.2.2.2.2.2.2)), (0 : Int))
theorem r11_Caller_Cancel.s1 (n : Nat) (x0 : DCaller') : ev (r11_Caller_Cancel.c1 n) [(0, some ⟨.box TCaller', x0⟩)] (⟨retK r11_Caller_Cancel.rs r11_Caller_Cancel.ps r11_Caller_Cancel.r, []⟩ : Ks r11_Caller_Cancel.R) (retK r11_Caller_Cancel.rs r11_Caller_Cancel.ps r11_Caller_Cancel.r) = r11_Caller_Cancel.j1 n x0 := by kernel_rfl
noncomputable def r11_Caller_Cancel.H1 (n : Nat) (X : XC) : St → Option r11_Caller_Cancel.R := fun st => ghK [.keep [0]] st fun st => ev X st (⟨retK r11_Caller_Cancel.rs r11_Caller_Cancel.ps r11_Caller_Cancel.r, []⟩ : Ks r11_Caller_Cancel.R) (retK r11_Caller_Cancel.rs r11_Caller_Cancel.ps r11_Caller_Cancel.r)
noncomputable abbrev r11_Caller_Cancel.K1 (n : Nat) : St → Option r11_Caller_Cancel.R := r11_Caller_Cancel.H1 n (r11_Caller_Cancel.c1 n)
noncomputable def r11_Caller_Cancel.d (n : Nat) (X1 : XC) : XC :=
  (.seq (.reg (.op (.mv 2 (.c ⟨.int .i64, ((0 : Int) : Int)⟩)) none <| .nil)) <|
  (.seq (.aft (.block 0 (.seq (.pre [.split 0 []] (.reg (.op (.bor 4 0) none <| .op (.eqnil 5 (.t 4) false false) none <| .op (.mv 3 (.t 5)) none <| .nil))) <|
  (.cond (.t 3)
  (.seq (.reg (.op (.mv 2 (.c ⟨.int .i64, ((1 : Int) : Int)⟩)) none <| .nil)) <|
  .ret)
  (.seq (.reg (.op (.bor 7 0) none <| .op (.nilchk 8 (.t 7)) none <| .op (.fa 9 8 3 3) none <| .op (.ld 10 9 1 false) none <| .op (.un 11 .not (.t 10)) none <| .op (.mv 6 (.t 11)) none <| .nil)) <|
  (.cond (.t 6)
  (.seq (.reg (.op (.mv 2 (.c ⟨.int .i64, ((5 : Int) : Int)⟩)) none <| .nil)) <|
  .ret)
  .skip))))) [.keep [0]]) X1))
noncomputable abbrev r11_Caller_Cancel.c (n : Nat) : XC := r11_Caller_Cancel.d n (r11_Caller_Cancel.c1 n)
noncomputable def r11_Caller_Cancel.f (n : Nat) (a0 : Option DCaller') : Option ((Option DCaller') × Int) :=
  optM a0 (some (none, (1 : Int))) fun p1 => bif (!p1.2.2.2.1) then (some ((some (p1.1, p1.2.1, p1.2.2.1, p1.2.2.2.1, p1.2.2.2.2.1, p1.2.2.2.2.2.1, p1.2.2.2.2.2.2.1, p1.2.2.2.2.2.2.2)), (5 : Int)))
  else (r11_Caller_Cancel.j1 n (p1.1, p1.2.1, p1.2.2.1, p1.2.2.2.1, p1.2.2.2.2.1, p1.2.2.2.2.2.1, p1.2.2.2.2.2.2.1, p1.2.2.2.2.2.2.2))
theorem r11_Caller_Cancel.w (n : Nat) (a0 : Option DCaller') (X1 : XC) : evFn (r11_Caller_Cancel.d n X1) r11_Caller_Cancel.rs r11_Caller_Cancel.ps r11_Caller_Cancel.r (a0, ()) =
  (optM a0 (some (none, (1 : Int))) fun p1 => bif (!p1.2.2.2.1) then (some ((some (p1.1, p1.2.1, p1.2.2.1, p1.2.2.2.1, p1.2.2.2.2.1, p1.2.2.2.2.2.1, p1.2.2.2.2.2.2.1, p1.2.2.2.2.2.2.2)), (5 : Int)))
  else (ev X1 [(0, some ⟨.box TCaller', ((p1.1, p1.2.1, p1.2.2.1, p1.2.2.2.1, p1.2.2.2.2.1, p1.2.2.2.2.2.1, p1.2.2.2.2.2.2.1, p1.2.2.2.2.2.2.2) : DCaller')⟩)] (⟨retK r11_Caller_Cancel.rs r11_Caller_Cancel.ps r11_Caller_Cancel.r, []⟩ : Ks r11_Caller_Cancel.R) (retK r11_Caller_Cancel.rs r11_Caller_Cancel.ps r11_Caller_Cancel.r)) : Option r11_Caller_Cancel.R) := by kernel_rfl
theorem r11_Caller_Cancel.ok (n : Nat) (a0 : Option DCaller') : evFn (r11_Caller_Cancel.c n) r11_Caller_Cancel.rs r11_Caller_Cancel.ps r11_Caller_Cancel.r (a0, ()) = r11_Caller_Cancel.f n a0 := (r11_Caller_Cancel.w n a0 (r11_Caller_Cancel.c1 n)).trans (by simp only [r11_Caller_Cancel.f, r11_Caller_Cancel.s1 n] <;> kernel_rfl)
noncomputable def r11_Caller_Cancel.sp (n : Nat) : FSpec := { f := 41, ps := r11_Caller_Cancel.ps, r := r11_Caller_Cancel.r, run := fun x => r11_Caller_Cancel.f n x.1 }
theorem r11_Caller_Cancel.calls (n : Nat) : (r11_Caller_Cancel.c n).calls = [] := by kernel_rfl
theorem r11_Caller_Cancel.fits (n : Nat) : fnB tab hd Try.f41 (r11_Caller_Cancel.c n) r11_Caller_Cancel.rs (r11_Caller_Cancel.sp n).ps (r11_Caller_Cancel.sp n).r = true := by kernel_rfl
theorem r11_Caller_Cancel.sound (n : Nat) : Sound Try.prog (r11_Caller_Cancel.sp n) := by
  refine fnB_sound tabOk eqFacts mixed (fn := Try.f41) (c := r11_Caller_Cancel.c n) (rs := r11_Caller_Cancel.rs) (by kernel_rfl) ?_ (r11_Caller_Cancel.fits n) ?_
  · rw [r11_Caller_Cancel.calls]
    intro s hs; cases hs
  · rintro ⟨a0, ⟨⟩⟩ y h
    exact (r11_Caller_Cancel.ok n a0).trans h
theorem r11_Caller_Cancel.meets (n : Nat) : Meets Try.prog (r11_Caller_Cancel.sp n) := (r11_Caller_Cancel.sound n).meets
/-! (*backwater/backwaterref11.Callee).answer -/
abbrev r11_Callee_answer.ps : List (Ty × Bool) := [(.cref TCallee', false), (.int .u8, false)]
abbrev r11_Callee_answer.r : Ty := TPacket
abbrev r11_Callee_answer.rs : List RV := [.c 4 6 true]
abbrev r11_Callee_answer.R : Type := (rtOf r11_Callee_answer.ps r11_Callee_answer.r).den
noncomputable def r11_Callee_answer.d (n : Nat) : XC :=
  (.seq (.reg (.op (.alloc 4 ⟨TPacket, (((0 : Int), (0 : Int), (0 : Int), (0 : Int), (0 : Int), ([] : List Int), ()) : DPacket)⟩) none <| .nil)) <|
  (.seq (.reg (.op (.mv 6 (.t 0)) none <| .op (.mv 7 (.t 1)) none <| .op (.nilchk 8 (.t 6)) none <| .op (.fa 9 8 0 0) none <| .op (.idxA 10 (.t 9) (.t 7) 4 4) none <| .op (.ld 11 10 4 true) none <| .op (.alloc 5 ⟨Ttaken, (((0 : Int), (0 : Int), (0 : Int), ([] : List Int), ()) : Dtaken)⟩) none <| .op (.st 5 (.t 11) 4) none <| .nil)) <|
  (.seq (.reg (.op (.mv 12 (.t 1)) none <| .op (.fa 13 5 1 1) none <| .op (.ld 14 13 1 false) none <| .op (.fa 15 5 2 2) none <| .op (.ld 16 15 1 false) none <| .op (.fa 17 5 3 3) none <| .op (.ld 18 17 1 false) none <| .op (.build 19 ⟨TPacket, (((0 : Int), (0 : Int), (0 : Int), (0 : Int), (0 : Int), ([] : List Int), ()) : DPacket)⟩ [(0, (.c ⟨.int .u8, ((2 : Int) : Int)⟩), false), (2, (.t 12), false), (3, (.t 14), false), (4, (.t 16), false), (5, (.t 18), false)]) none <| .op (.st 4 (.t 19) 6) none <| .nil)) <|
  .ret)))
noncomputable abbrev r11_Callee_answer.c (n : Nat) : XC := r11_Callee_answer.d n
noncomputable def r11_Callee_answer.f (n : Nat) (a0 : DCallee') (a1 : Int) : Option DPacket :=
  idxK a0.1 a1 fun e1 => some ((2 : Int), (0 : Int), a1, e1.2.1, e1.2.2.1, e1.2.2.2.1, ())
theorem r11_Callee_answer.ok (n : Nat) (a0 : DCallee') (a1 : Int) : evFn (r11_Callee_answer.c n) r11_Callee_answer.rs r11_Callee_answer.ps r11_Callee_answer.r (a0, a1, ()) = r11_Callee_answer.f n a0 a1 := by kernel_rfl
noncomputable def r11_Callee_answer.sp (n : Nat) : FSpec := { f := 48, ps := r11_Callee_answer.ps, r := r11_Callee_answer.r, run := fun x => r11_Callee_answer.f n x.1 x.2.1 }
theorem r11_Callee_answer.calls (n : Nat) : (r11_Callee_answer.c n).calls = [] := by kernel_rfl
theorem r11_Callee_answer.fits (n : Nat) : fnB tab hd Try.f48 (r11_Callee_answer.c n) r11_Callee_answer.rs (r11_Callee_answer.sp n).ps (r11_Callee_answer.sp n).r = true := by kernel_rfl
theorem r11_Callee_answer.sound (n : Nat) : Sound Try.prog (r11_Callee_answer.sp n) := by
  refine fnB_sound tabOk eqFacts mixed (fn := Try.f48) (c := r11_Callee_answer.c n) (rs := r11_Callee_answer.rs) (by kernel_rfl) ?_ (r11_Callee_answer.fits n) ?_
  · rw [r11_Callee_answer.calls]
    intro s hs; cases hs
  · rintro ⟨a0, a1, ⟨⟩⟩ y h
    exact (r11_Callee_answer.ok n a0 a1).trans h
theorem r11_Callee_answer.meets (n : Nat) : Meets Try.prog (r11_Callee_answer.sp n) := (r11_Callee_answer.sound n).meets
/-! (*backwater/backwaterref11.Callee).Take -/
abbrev r11_Callee_Take.ps : List (Ty × Bool) := [(.opt TCallee', true), (TPacket, false)]
abbrev r11_Callee_Take.r : Ty := .tup (.pair .str (.pair .bool (.pair TPacket (.pair .bool .unit))))
abbrev r11_Callee_Take.rs : List RV := [.t 4, .t 5, .c 6 6 true, .t 7]
abbrev r11_Callee_Take.R : Type := (rtOf r11_Callee_Take.ps r11_Callee_Take.r).den
noncomputable def r11_Callee_Take.d1 (n : Nat) : XC :=
  (.seq (.reg (.op (.build 90 ⟨TPacket, (((0 : Int), (0 : Int), (0 : Int), (0 : Int), (0 : Int), ([] : List Int), ()) : DPacket)⟩ []) none <| .op (.mv 4 (.c ⟨.str, (([] : List Int) : List Int)⟩)) none <| .op (.mv 5 (.c ⟨.bool, (false : Bool)⟩)) none <| .op (.st 6 (.t 90) 6) none <| .op (.mv 7 (.c ⟨.bool, (false : Bool)⟩)) none <| .nil)) <|
  .ret)
noncomputable abbrev r11_Callee_Take.c1 (n : Nat) : XC := r11_Callee_Take.d1 n
noncomputable def r11_Callee_Take.j1 (n : Nat) (x0 : DCallee') (x6 : DPacket) : Option ((Option DCallee') × ((List Int) × Bool × DPacket × Bool × Unit)) :=
  some ((some (x0.1, x0.2)), ([] : List Int), false, ((0 : Int), (0 : Int), (0 : Int), (0 : Int), (0 : Int), ([] : List Int), ()), false, ())
theorem r11_Callee_Take.s1 (n : Nat) (x0 : DCallee') (x6 : DPacket) : ev (r11_Callee_Take.c1 n) [(0, some ⟨.box TCallee', x0⟩), (6, some ⟨.box TPacket, x6⟩)] (⟨retK r11_Callee_Take.rs r11_Callee_Take.ps r11_Callee_Take.r, []⟩ : Ks r11_Callee_Take.R) (retK r11_Callee_Take.rs r11_Callee_Take.ps r11_Callee_Take.r) = r11_Callee_Take.j1 n x0 x6 := by kernel_rfl
noncomputable def r11_Callee_Take.H1 (n : Nat) (X : XC) : St → Option r11_Callee_Take.R := fun st => ghK [.keep [0, 6]] st fun st => ev X st (⟨retK r11_Callee_Take.rs r11_Callee_Take.ps r11_Callee_Take.r, []⟩ : Ks r11_Callee_Take.R) (retK r11_Callee_Take.rs r11_Callee_Take.ps r11_Callee_Take.r)
noncomputable abbrev r11_Callee_Take.K1 (n : Nat) : St → Option r11_Callee_Take.R := r11_Callee_Take.H1 n (r11_Callee_Take.c1 n)
noncomputable def r11_Callee_Take.d (n : Nat) (X1 : XC) : XC :=
  (.seq (.reg (.op (.boxv 3 (.t 1)) none <| .op (.mv 4 (.c ⟨.str, (([] : List Int) : List Int)⟩)) none <| .op (.mv 5 (.c ⟨.bool, (false : Bool)⟩)) none <| .op (.alloc 6 ⟨TPacket, (((0 : Int), (0 : Int), (0 : Int), (0 : Int), (0 : Int), ([] : List Int), ()) : DPacket)⟩) none <| .op (.mv 7 (.c ⟨.bool, (false : Bool)⟩)) none <| .nil)) <|
  (.seq (.seq (.pre [.split 0 []] (.reg (.op (.bor 9 0) none <| .op (.eqnil 10 (.t 9) false false) none <| .op (.mv 11 (.t 10)) none <| .grp 11 false (.op (.ld 12 3 6 true) (some ([3, 11, 12], [12])) <| .op (.call (some 13) (r03_Right.sp n) [.v (.t 12)]) (some ([11, 12, 13], [13])) <| .op (.un 14 .not (.t 13)) (some ([11, 13, 14], [14])) <| .nil) 14 15 [12, 13, 14] <| .op (.mv 16 (.t 15)) none <| .grp 16 false (.op (.fa 17 3 0 0) (some ([3, 16, 17], [17])) <| .op (.ld 18 17 1 false) (some ([3, 16, 17, 18], [18])) <| .op (.bin 19 .neq (.t 18) (.c ⟨.int .u8, ((1 : Int) : Int)⟩)) (some ([16, 18, 19], [19])) <| .nil) 19 20 [17, 18, 19] <| .nil))) <|
  (.cond (.t 20)
  (.seq (.pre [.keep [0, 6]] (.reg (.op (.build 21 ⟨TPacket, (((0 : Int), (0 : Int), (0 : Int), (0 : Int), (0 : Int), ([] : List Int), ()) : DPacket)⟩ []) none <| .op (.mv 4 (.c ⟨.str, (([] : List Int) : List Int)⟩)) none <| .op (.mv 5 (.c ⟨.bool, (false : Bool)⟩)) none <| .op (.st 6 (.t 21) 6) none <| .op (.mv 7 (.c ⟨.bool, (false : Bool)⟩)) none <| .nil))) <|
  .ret)
  .skip)) <|
  (.seq (.regD (.op (.bor 22 0) (some ([0, 22], [22])) <| .op (.fa 23 3 1 1) (some ([3, 23], [23])) <| .op (.ld 24 23 1 false) (some ([3, 23, 24], [24])) <| .op (.nilchk 25 (.t 22)) (some ([0, 22, 25], [25])) <| .op (.fa 26 25 0 0) (some ([0, 25, 26], [26])) <| .op (.idxA 27 (.t 26) (.t 24) 4 4) (some ([0, 24, 26, 27], [27])) <| .op (.ld 28 27 4 true) (some ([0, 27, 28], [28])) <| .op (.alloc 8 ⟨Ttaken, (((0 : Int), (0 : Int), (0 : Int), ([] : List Int), ()) : Dtaken)⟩) (some ([8], [8])) <| .op (.st 8 (.t 28) 4) (some ([8, 28], [8])) <| .nil)) <|
  (.seq (.aft (.block 0 (.seq (.pre [.keep [0, 3, 6, 8]] (.reg (.op (.fa 30 8 0 0) none <| .op (.ld 31 30 1 false) none <| .op (.bin 32 .eql (.t 31) (.c ⟨.int .i64, ((0 : Int) : Int)⟩)) none <| .op (.mv 33 (.t 32)) none <| .grp 33 false (.op (.fa 34 3 3 3) (some ([3, 33, 34], [34])) <| .op (.ld 35 34 1 false) (some ([3, 33, 34, 35], [35])) <| .op (.fa 36 8 1 1) (some ([8, 33, 36], [36])) <| .op (.ld 37 36 1 false) (some ([8, 33, 36, 37], [37])) <| .op (.bin 38 .gtr (.t 35) (.t 37)) (some ([33, 35, 37, 38], [38])) <| .nil) 38 39 [34, 35, 36, 37, 38] <| .op (.mv 40 (.t 39)) none <| .grp 40 false (.op (.fa 41 3 3 3) (some ([3, 40, 41], [41])) <| .op (.ld 42 41 1 false) (some ([3, 40, 41, 42], [42])) <| .op (.fa 43 8 1 1) (some ([8, 40, 43], [43])) <| .op (.ld 44 43 1 false) (some ([8, 40, 43, 44], [44])) <| .op (.bin 45 .eql (.t 42) (.t 44)) (some ([40, 42, 44, 45], [45])) <| .op (.mv 46 (.t 45)) (some ([40, 45, 46], [46])) <| .grp 46 true (.op (.fa 47 3 4 4) (some ([3, 46, 47], [47])) <| .op (.ld 48 47 1 false) (some ([3, 46, 47, 48], [48])) <| .op (.fa 49 8 2 2) (some ([8, 46, 49], [49])) <| .op (.ld 50 49 1 false) (some ([8, 46, 49, 50], [50])) <| .op (.bin 51 .gtr (.t 48) (.t 50)) (some ([46, 48, 50, 51], [51])) <| .nil) 51 52 [47, 48, 49, 50, 51] <| .nil) 52 53 [41, 42, 43, 44, 45, 46, 47, 48, 49, 50, 51, 52] <| .op (.mv 29 (.t 53)) none <| .nil))) <|
  (.cond (.t 29)
  (.seq (.regD (.op (.bor 54 0) (some ([0, 54], [54])) <| .op (.fa 55 3 1 1) (some ([3, 55], [55])) <| .op (.ld 56 55 1 false) (some ([3, 55, 56], [56])) <| .op (.fa 57 3 3 3) (some ([3, 57], [57])) <| .op (.ld 58 57 1 false) (some ([3, 57, 58], [58])) <| .op (.fa 59 3 4 4) (some ([3, 59], [59])) <| .op (.ld 60 59 1 false) (some ([3, 59, 60], [60])) <| .op (.build 61 ⟨Ttaken, (((0 : Int), (0 : Int), (0 : Int), ([] : List Int), ()) : Dtaken)⟩ [(0, (.c ⟨.int .i64, ((1 : Int) : Int)⟩), false), (1, (.t 58), false), (2, (.t 60), false), (3, (.c ⟨.str, (([] : List Int) : List Int)⟩), false)]) (some ([58, 60, 61], [61])) <| .op (.nilchk 62 (.t 54)) (some ([0, 54, 62], [62])) <| .op (.fa 63 62 0 0) (some ([0, 62, 63], [63])) <| .op (.idxA 64 (.t 63) (.t 56) 4 4) (some ([0, 56, 63, 64], [64])) <| .op (.st 64 (.t 61) 4) (some ([0, 61, 64], [0])) <| .nil)) <|
  (.seq (.pre [.keep [0, 3, 6]] (.reg (.op (.fa 65 3 5 5) none <| .op (.ld 66 65 1 false) none <| .op (.build 67 ⟨TPacket, (((0 : Int), (0 : Int), (0 : Int), (0 : Int), (0 : Int), ([] : List Int), ()) : DPacket)⟩ []) none <| .op (.mv 4 (.t 66)) none <| .op (.mv 5 (.c ⟨.bool, (true : Bool)⟩)) none <| .op (.st 6 (.t 67) 6) none <| .op (.mv 7 (.c ⟨.bool, (false : Bool)⟩)) none <| .nil))) <|
  .ret))
  (.seq (.reg (.op (.fa 69 8 0 0) none <| .op (.ld 70 69 1 false) none <| .op (.bin 71 .eql (.t 70) (.c ⟨.int .i64, ((2 : Int) : Int)⟩)) none <| .op (.mv 72 (.t 71)) none <| .grp 72 true (.op (.fa 73 3 3 3) (some ([3, 72, 73], [73])) <| .op (.ld 74 73 1 false) (some ([3, 72, 73, 74], [74])) <| .op (.fa 75 8 1 1) (some ([8, 72, 75], [75])) <| .op (.ld 76 75 1 false) (some ([8, 72, 75, 76], [76])) <| .op (.bin 77 .eql (.t 74) (.t 76)) (some ([72, 74, 76, 77], [77])) <| .nil) 77 78 [73, 74, 75, 76, 77] <| .op (.mv 79 (.t 78)) none <| .grp 79 true (.op (.fa 80 3 4 4) (some ([3, 79, 80], [80])) <| .op (.ld 81 80 1 false) (some ([3, 79, 80, 81], [81])) <| .op (.fa 82 8 2 2) (some ([8, 79, 82], [82])) <| .op (.ld 83 82 1 false) (some ([8, 79, 82, 83], [83])) <| .op (.bin 84 .eql (.t 81) (.t 83)) (some ([79, 81, 83, 84], [84])) <| .nil) 84 85 [80, 81, 82, 83, 84] <| .op (.mv 68 (.t 85)) none <| .nil)) <|
  (.cond (.t 68)
  (.seq (.pre [.keep [0, 3, 6]] (.reg (.op (.bor 86 0) none <| .op (.fa 87 3 1 1) none <| .op (.ld 88 87 1 false) none <| .op (.call (some 89) (r11_Callee_answer.sp n) [.r 86, .v (.t 88)]) none <| .op (.mv 4 (.c ⟨.str, (([] : List Int) : List Int)⟩)) none <| .op (.mv 5 (.c ⟨.bool, (false : Bool)⟩)) none <| .op (.st 6 (.t 89) 6) none <| .op (.mv 7 (.c ⟨.bool, (true : Bool)⟩)) none <| .nil))) <|
  .ret)
  .skip))))) [.keep [0, 6]]) X1))))
noncomputable abbrev r11_Callee_Take.c (n : Nat) : XC := r11_Callee_Take.d n (r11_Callee_Take.c1 n)
noncomputable def r11_Callee_Take.f (n : Nat) (a0 : Option DCallee') (a1 : DPacket) : Option ((Option DCallee') × ((List Int) × Bool × DPacket × Bool × Unit)) :=
  optM a0 (some (none, ([] : List Int), false, ((0 : Int), (0 : Int), (0 : Int), (0 : Int), (0 : Int), ([] : List Int), ()), false, ())) fun p1 => ((r03_Right.f n (a1.1, a1.2.1, a1.2.2.1, a1.2.2.2.1, a1.2.2.2.2.1, a1.2.2.2.2.2.1, a1.2.2.2.2.2.2)).bind fun r3 => some (!r3)).bind fun g2 =>
  (bif g2 then some true else (some (!decide (a1.1 = (1 : Int))))).bind fun g4 =>
  bif g4 then (some ((some (p1.1, p1.2)), ([] : List Int), false, ((0 : Int), (0 : Int), (0 : Int), (0 : Int), (0 : Int), ([] : List Int), ()), false, ()))
  else (inK' a1.2.1 4 ((lnth p1.1 a1.2.1).bind fun e5 => (bif (decide (e5.1 = (0 : Int))) then some true else (some (decide (e5.2.1 < a1.2.2.2.1)))).bind fun g6 =>
  (bif g6 then some true else ((bif (decide (a1.2.2.2.1 = e5.2.1)) then (some (decide (e5.2.2.1 < a1.2.2.2.2.1))) else some false).bind fun g8 =>
  some g8)).bind fun g7 =>
  bif g7 then (inK' a1.2.1 4 (some ((some ((lset p1.1 a1.2.1 ((1 : Int), a1.2.2.2.1, a1.2.2.2.2.1, ([] : List Int), ())), p1.2)), a1.2.2.2.2.2.1, true, ((0 : Int), (0 : Int), (0 : Int), (0 : Int), (0 : Int), ([] : List Int), ()), false, ())))
  else ((bif (decide (e5.1 = (2 : Int))) then (some (decide (a1.2.2.2.1 = e5.2.1))) else some false).bind fun g9 =>
  (bif g9 then (some (decide (a1.2.2.2.2.1 = e5.2.2.1))) else some false).bind fun g10 =>
  bif g10 then ((r11_Callee_answer.f n (p1.1, p1.2) a1.2.1).bind fun r11 => some ((some (p1.1, p1.2)), ([] : List Int), false, (r11.1, r11.2.1, r11.2.2.1, r11.2.2.2.1, r11.2.2.2.2.1, r11.2.2.2.2.2.1, r11.2.2.2.2.2.2), true, ()))
  else (r11_Callee_Take.j1 n (p1.1, p1.2) ((0 : Int), (0 : Int), (0 : Int), (0 : Int), (0 : Int), ([] : List Int), ())))))
theorem r11_Callee_Take.w (n : Nat) (a0 : Option DCallee') (a1 : DPacket) (X1 : XC) : evFn (r11_Callee_Take.d n X1) r11_Callee_Take.rs r11_Callee_Take.ps r11_Callee_Take.r (a0, a1, ()) =
  (optM a0 (some (none, ([] : List Int), false, ((0 : Int), (0 : Int), (0 : Int), (0 : Int), (0 : Int), ([] : List Int), ()), false, ())) fun p1 => ((r03_Right.f n (a1.1, a1.2.1, a1.2.2.1, a1.2.2.2.1, a1.2.2.2.2.1, a1.2.2.2.2.2.1, a1.2.2.2.2.2.2)).bind fun r3 => some (!r3)).bind fun g2 =>
  (bif g2 then some true else (some (!decide (a1.1 = (1 : Int))))).bind fun g4 =>
  bif g4 then (some ((some (p1.1, p1.2)), ([] : List Int), false, ((0 : Int), (0 : Int), (0 : Int), (0 : Int), (0 : Int), ([] : List Int), ()), false, ()))
  else (inK' a1.2.1 4 ((lnth p1.1 a1.2.1).bind fun e5 => (bif (decide (e5.1 = (0 : Int))) then some true else (some (decide (e5.2.1 < a1.2.2.2.1)))).bind fun g6 =>
  (bif g6 then some true else ((bif (decide (a1.2.2.2.1 = e5.2.1)) then (some (decide (e5.2.2.1 < a1.2.2.2.2.1))) else some false).bind fun g8 =>
  some g8)).bind fun g7 =>
  bif g7 then (inK' a1.2.1 4 (some ((some ((lset p1.1 a1.2.1 ((1 : Int), a1.2.2.2.1, a1.2.2.2.2.1, ([] : List Int), ())), p1.2)), a1.2.2.2.2.2.1, true, ((0 : Int), (0 : Int), (0 : Int), (0 : Int), (0 : Int), ([] : List Int), ()), false, ())))
  else ((bif (decide (e5.1 = (2 : Int))) then (some (decide (a1.2.2.2.1 = e5.2.1))) else some false).bind fun g9 =>
  (bif g9 then (some (decide (a1.2.2.2.2.1 = e5.2.2.1))) else some false).bind fun g10 =>
  bif g10 then ((r11_Callee_answer.f n (p1.1, p1.2) a1.2.1).bind fun r11 => some ((some (p1.1, p1.2)), ([] : List Int), false, (r11.1, r11.2.1, r11.2.2.1, r11.2.2.2.1, r11.2.2.2.2.1, r11.2.2.2.2.2.1, r11.2.2.2.2.2.2), true, ()))
  else (ev X1 [(0, some ⟨.box TCallee', ((p1.1, p1.2) : DCallee')⟩), (6, some ⟨.box TPacket, (((0 : Int), (0 : Int), (0 : Int), (0 : Int), (0 : Int), ([] : List Int), ()) : DPacket)⟩)] (⟨retK r11_Callee_Take.rs r11_Callee_Take.ps r11_Callee_Take.r, []⟩ : Ks r11_Callee_Take.R) (retK r11_Callee_Take.rs r11_Callee_Take.ps r11_Callee_Take.r))))) : Option r11_Callee_Take.R) := by kernel_rfl
theorem r11_Callee_Take.ok (n : Nat) (a0 : Option DCallee') (a1 : DPacket) : evFn (r11_Callee_Take.c n) r11_Callee_Take.rs r11_Callee_Take.ps r11_Callee_Take.r (a0, a1, ()) = r11_Callee_Take.f n a0 a1 := (r11_Callee_Take.w n a0 a1 (r11_Callee_Take.c1 n)).trans (by simp only [r11_Callee_Take.f, r11_Callee_Take.s1 n] <;> kernel_rfl)
noncomputable def r11_Callee_Take.sp (n : Nat) : FSpec := { f := 31, ps := r11_Callee_Take.ps, r := r11_Callee_Take.r, run := fun x => r11_Callee_Take.f n x.1 x.2.1 }
theorem r11_Callee_Take.calls (n : Nat) : (r11_Callee_Take.c n).calls = [r03_Right.sp n, r11_Callee_answer.sp n] := by kernel_rfl
theorem r11_Callee_Take.fits (n : Nat) : fnB tab hd Try.f31 (r11_Callee_Take.c n) r11_Callee_Take.rs (r11_Callee_Take.sp n).ps (r11_Callee_Take.sp n).r = true := by kernel_rfl
theorem r11_Callee_Take.sound (n : Nat) : Sound Try.prog (r11_Callee_Take.sp n) := by
  refine fnB_sound tabOk eqFacts mixed (fn := Try.f31) (c := r11_Callee_Take.c n) (rs := r11_Callee_Take.rs) (by kernel_rfl) ?_ (r11_Callee_Take.fits n) ?_
  · rw [r11_Callee_Take.calls]
    intro s hs
    simp only [List.mem_cons, List.not_mem_nil, or_false] at hs
    rcases hs with rfl | rfl
    · exact r03_Right.meets n
    · exact r11_Callee_answer.meets n
  · rintro ⟨a0, a1, ⟨⟩⟩ y h
    exact (r11_Callee_Take.ok n a0 a1).trans h
theorem r11_Callee_Take.meets (n : Nat) : Meets Try.prog (r11_Callee_Take.sp n) := (r11_Callee_Take.sound n).meets
/-! (*backwater/backwaterref11.Callee).Reply -/
abbrev r11_Callee_Reply.ps : List (Ty × Bool) := [(.opt TCallee', true), (.int .u8, false), (.str, false)]
abbrev r11_Callee_Reply.r : Ty := .tup (.pair TPacket (.pair (.int .i64) .unit))
abbrev r11_Callee_Reply.rs : List RV := [.c 6 6 true, .t 7]
abbrev r11_Callee_Reply.R : Type := (rtOf r11_Callee_Reply.ps r11_Callee_Reply.r).den
noncomputable def r11_Callee_Reply.d1 (n : Nat) : XC :=
  (.seq (.reg (.op (.bor 35 0) none <| .op (.mv 36 (.t 1)) none <| .op (.nilchk 37 (.t 35)) none <| .op (.fa 38 37 0 0) none <| .op (.idxA 39 (.t 38) (.t 36) 4 4) none <| .op (.fa 40 39 0 0) none <| .op (.st 40 (.c ⟨.int .i64, ((2 : Int) : Int)⟩) 1) none <| .nil)) <|
  (.seq (.reg (.op (.bor 41 0) none <| .op (.mv 42 (.t 1)) none <| .op (.mv 43 (.t 2)) none <| .op (.nilchk 44 (.t 41)) none <| .op (.fa 45 44 0 0) none <| .op (.idxA 46 (.t 45) (.t 42) 4 4) none <| .op (.fa 47 46 3 3) none <| .op (.st 47 (.t 43) 1) none <| .nil)) <|
  (.seq (.pre [.keep [0, 1, 6]] (.reg (.op (.bor 48 0) none <| .op (.mv 49 (.t 1)) none <| .op (.call (some 50) (r11_Callee_answer.sp n) [.r 48, .v (.t 49)]) none <| .op (.st 6 (.t 50) 6) none <| .op (.mv 7 (.c ⟨.int .i64, ((0 : Int) : Int)⟩)) none <| .nil))) <|
  .ret)))
noncomputable abbrev r11_Callee_Reply.c1 (n : Nat) : XC := r11_Callee_Reply.d1 n
noncomputable def r11_Callee_Reply.j1 (n : Nat) (x0 : DCallee') (x1 : Int) (x2 : List Int) (x6 : DPacket) : Option ((Option DCallee') × (DPacket × Int × Unit)) :=
  inK' x1 4 ((lnth x0.1 x1).bind fun e1 => inK' x1 4 ((lnth (lset x0.1 x1 ((2 : Int), e1.2)) x1).bind fun e2 => (r11_Callee_answer.f n ((lset (lset x0.1 x1 ((2 : Int), e1.2)) x1 (e2.1, e2.2.1, e2.2.2.1, x2, e2.2.2.2.2)), x0.2) x1).bind fun r3 => some ((some ((lset (lset x0.1 x1 ((2 : Int), e1.2)) x1 (e2.1, e2.2.1, e2.2.2.1, x2, e2.2.2.2.2)), x0.2)), (r3.1, r3.2.1, r3.2.2.1, r3.2.2.2.1, r3.2.2.2.2.1, r3.2.2.2.2.2.1, r3.2.2.2.2.2.2), (0 : Int), ())))
theorem r11_Callee_Reply.s1 (n : Nat) (x0 : DCallee') (x1 : Int) (x2 : List Int) (x6 : DPacket) : ev (r11_Callee_Reply.c1 n) [(0, some ⟨.box TCallee', x0⟩), (1, some ⟨.int .u8, x1⟩), (2, some ⟨.str, x2⟩), (6, some ⟨.box TPacket, x6⟩)] (⟨retK r11_Callee_Reply.rs r11_Callee_Reply.ps r11_Callee_Reply.r, []⟩ : Ks r11_Callee_Reply.R) (retK r11_Callee_Reply.rs r11_Callee_Reply.ps r11_Callee_Reply.r) = r11_Callee_Reply.j1 n x0 x1 x2 x6 := by kernel_rfl
noncomputable def r11_Callee_Reply.H1 (n : Nat) (X : XC) : St → Option r11_Callee_Reply.R := fun st => ghK [.keep [0, 1, 2, 6]] st fun st => ev X st (⟨retK r11_Callee_Reply.rs r11_Callee_Reply.ps r11_Callee_Reply.r, []⟩ : Ks r11_Callee_Reply.R) (retK r11_Callee_Reply.rs r11_Callee_Reply.ps r11_Callee_Reply.r)
noncomputable abbrev r11_Callee_Reply.K1 (n : Nat) : St → Option r11_Callee_Reply.R := r11_Callee_Reply.H1 n (r11_Callee_Reply.c1 n)
noncomputable def r11_Callee_Reply.d (n : Nat) (X1 : XC) : XC :=
  (.seq (.reg (.op (.alloc 6 ⟨TPacket, (((0 : Int), (0 : Int), (0 : Int), (0 : Int), (0 : Int), ([] : List Int), ()) : DPacket)⟩) none <| .op (.mv 7 (.c ⟨.int .i64, ((0 : Int) : Int)⟩)) none <| .nil)) <|
  (.seq (.aft (.block 0 (.seq (.pre [.split 0 []] (.reg (.op (.bor 9 0) none <| .op (.eqnil 10 (.t 9) false false) none <| .op (.mv 8 (.t 10)) none <| .nil))) <|
  (.cond (.t 8)
  (.seq (.reg (.op (.build 11 ⟨TPacket, (((0 : Int), (0 : Int), (0 : Int), (0 : Int), (0 : Int), ([] : List Int), ()) : DPacket)⟩ []) none <| .op (.st 6 (.t 11) 6) none <| .op (.mv 7 (.c ⟨.int .i64, ((1 : Int) : Int)⟩)) none <| .nil)) <|
  .ret)
  (.seq (.reg (.op (.mv 13 (.t 1)) none <| .op (.bin 14 .lss (.t 13) (.c ⟨.int .u8, ((1 : Int) : Int)⟩)) none <| .op (.mv 15 (.t 14)) none <| .grp 15 false (.op (.mv 16 (.t 1)) (some ([1, 15, 16], [16])) <| .op (.bin 17 .gtr (.t 16) (.c ⟨.int .u8, ((3 : Int) : Int)⟩)) (some ([15, 16, 17], [17])) <| .nil) 17 18 [16, 17] <| .op (.mv 12 (.t 18)) none <| .nil)) <|
  (.cond (.t 12)
  (.seq (.pre [.keep [0, 6]] (.reg (.op (.build 19 ⟨TPacket, (((0 : Int), (0 : Int), (0 : Int), (0 : Int), (0 : Int), ([] : List Int), ()) : DPacket)⟩ []) none <| .op (.st 6 (.t 19) 6) none <| .op (.mv 7 (.c ⟨.int .i64, ((2 : Int) : Int)⟩)) none <| .nil))) <|
  .ret)
  (.seq (.reg (.op (.bor 21 0) none <| .op (.mv 22 (.t 1)) none <| .op (.nilchk 23 (.t 21)) none <| .op (.fa 24 23 0 0) none <| .op (.idxA 25 (.t 24) (.t 22) 4 4) none <| .op (.fa 26 25 0 0) none <| .op (.ld 27 26 1 false) none <| .op (.bin 28 .neq (.t 27) (.c ⟨.int .i64, ((1 : Int) : Int)⟩)) none <| .op (.mv 20 (.t 28)) none <| .nil)) <|
  (.cond (.t 20)
  (.seq (.pre [.keep [0, 6]] (.reg (.op (.build 29 ⟨TPacket, (((0 : Int), (0 : Int), (0 : Int), (0 : Int), (0 : Int), ([] : List Int), ()) : DPacket)⟩ []) none <| .op (.st 6 (.t 29) 6) none <| .op (.mv 7 (.c ⟨.int .i64, ((5 : Int) : Int)⟩)) none <| .nil))) <|
  .ret)
  (.seq (.pre [.keep [0, 1, 2, 6]] (.reg (.op (.mv 31 (.t 2)) none <| .op (.len 32 (.t 31) true) none <| .op (.bin 33 .gtr (.t 32) (.c ⟨.int .i64, ((16384 : Int) : Int)⟩)) none <| .op (.mv 30 (.t 33)) none <| .nil))) <|
  (.cond (.t 30)
  (.seq (.reg (.op (.build 34 ⟨TPacket, (((0 : Int), (0 : Int), (0 : Int), (0 : Int), (0 : Int), ([] : List Int), ()) : DPacket)⟩ []) none <| .op (.st 6 (.t 34) 6) none <| .op (.mv 7 (.c ⟨.int .i64, ((3 : Int) : Int)⟩)) none <| .nil)) <|
  .ret)
  .skip))))))))) [.keep [0, 1, 2, 6]]) X1))
noncomputable abbrev r11_Callee_Reply.c (n : Nat) : XC := r11_Callee_Reply.d n (r11_Callee_Reply.c1 n)
noncomputable def r11_Callee_Reply.f (n : Nat) (a0 : Option DCallee') (a1 : Int) (a2 : List Int) : Option ((Option DCallee') × (DPacket × Int × Unit)) :=
  optM a0 (some (none, ((0 : Int), (0 : Int), (0 : Int), (0 : Int), (0 : Int), ([] : List Int), ()), (1 : Int), ())) fun p1 => (bif (decide (a1 < (1 : Int))) then some true else (some (decide ((3 : Int) < a1)))).bind fun g2 =>
  bif g2 then (some ((some (p1.1, p1.2)), ((0 : Int), (0 : Int), (0 : Int), (0 : Int), (0 : Int), ([] : List Int), ()), (2 : Int), ()))
  else (inK' a1 4 ((lnth p1.1 a1).bind fun e3 => bif (!decide (e3.1 = (1 : Int))) then (some ((some (p1.1, p1.2)), ((0 : Int), (0 : Int), (0 : Int), (0 : Int), (0 : Int), ([] : List Int), ()), (5 : Int), ()))
  else (bif (decide ((16384 : Int) < (a2.length : Int))) then (some ((some (p1.1, p1.2)), ((0 : Int), (0 : Int), (0 : Int), (0 : Int), (0 : Int), ([] : List Int), ()), (3 : Int), ()))
  else (r11_Callee_Reply.j1 n (p1.1, p1.2) a1 a2 ((0 : Int), (0 : Int), (0 : Int), (0 : Int), (0 : Int), ([] : List Int), ())))))
theorem r11_Callee_Reply.w (n : Nat) (a0 : Option DCallee') (a1 : Int) (a2 : List Int) (X1 : XC) : evFn (r11_Callee_Reply.d n X1) r11_Callee_Reply.rs r11_Callee_Reply.ps r11_Callee_Reply.r (a0, a1, a2, ()) =
  (optM a0 (some (none, ((0 : Int), (0 : Int), (0 : Int), (0 : Int), (0 : Int), ([] : List Int), ()), (1 : Int), ())) fun p1 => (bif (decide (a1 < (1 : Int))) then some true else (some (decide ((3 : Int) < a1)))).bind fun g2 =>
  bif g2 then (some ((some (p1.1, p1.2)), ((0 : Int), (0 : Int), (0 : Int), (0 : Int), (0 : Int), ([] : List Int), ()), (2 : Int), ()))
  else (inK' a1 4 ((lnth p1.1 a1).bind fun e3 => bif (!decide (e3.1 = (1 : Int))) then (some ((some (p1.1, p1.2)), ((0 : Int), (0 : Int), (0 : Int), (0 : Int), (0 : Int), ([] : List Int), ()), (5 : Int), ()))
  else (bif (decide ((16384 : Int) < (a2.length : Int))) then (some ((some (p1.1, p1.2)), ((0 : Int), (0 : Int), (0 : Int), (0 : Int), (0 : Int), ([] : List Int), ()), (3 : Int), ()))
  else (ev X1 [(0, some ⟨.box TCallee', ((p1.1, p1.2) : DCallee')⟩), (1, some ⟨.int .u8, a1⟩), (2, some ⟨.str, a2⟩), (6, some ⟨.box TPacket, (((0 : Int), (0 : Int), (0 : Int), (0 : Int), (0 : Int), ([] : List Int), ()) : DPacket)⟩)] (⟨retK r11_Callee_Reply.rs r11_Callee_Reply.ps r11_Callee_Reply.r, []⟩ : Ks r11_Callee_Reply.R) (retK r11_Callee_Reply.rs r11_Callee_Reply.ps r11_Callee_Reply.r))))) : Option r11_Callee_Reply.R) := by kernel_rfl
theorem r11_Callee_Reply.ok (n : Nat) (a0 : Option DCallee') (a1 : Int) (a2 : List Int) : evFn (r11_Callee_Reply.c n) r11_Callee_Reply.rs r11_Callee_Reply.ps r11_Callee_Reply.r (a0, a1, a2, ()) = r11_Callee_Reply.f n a0 a1 a2 := (r11_Callee_Reply.w n a0 a1 a2 (r11_Callee_Reply.c1 n)).trans (by simp only [r11_Callee_Reply.f, r11_Callee_Reply.s1 n] <;> kernel_rfl)
noncomputable def r11_Callee_Reply.sp (n : Nat) : FSpec := { f := 42, ps := r11_Callee_Reply.ps, r := r11_Callee_Reply.r, run := fun x => r11_Callee_Reply.f n x.1 x.2.1 x.2.2.1 }
theorem r11_Callee_Reply.calls (n : Nat) : (r11_Callee_Reply.c n).calls = [r11_Callee_answer.sp n] := by kernel_rfl
theorem r11_Callee_Reply.fits (n : Nat) : fnB tab hd Try.f42 (r11_Callee_Reply.c n) r11_Callee_Reply.rs (r11_Callee_Reply.sp n).ps (r11_Callee_Reply.sp n).r = true := by kernel_rfl
theorem r11_Callee_Reply.sound (n : Nat) : Sound Try.prog (r11_Callee_Reply.sp n) := by
  refine fnB_sound tabOk eqFacts mixed (fn := Try.f42) (c := r11_Callee_Reply.c n) (rs := r11_Callee_Reply.rs) (by kernel_rfl) ?_ (r11_Callee_Reply.fits n) ?_
  · rw [r11_Callee_Reply.calls]
    intro s hs
    simp only [List.mem_cons, List.not_mem_nil, or_false] at hs
    rcases hs with rfl
    · exact r11_Callee_answer.meets n
  · rintro ⟨a0, a1, a2, ⟨⟩⟩ y h
    exact (r11_Callee_Reply.ok n a0 a1 a2).trans h
theorem r11_Callee_Reply.meets (n : Nat) : Meets Try.prog (r11_Callee_Reply.sp n) := (r11_Callee_Reply.sound n).meets
end Go.Proofs.Ytpkpihcdbgckkaa.S
