/- The functions of the seat: annotated code, shallow functions, and that each keeps its contract. Printed by pr.py. -/
import Derived.Test.YtpkpihcdbgckkaaSTab
namespace Go.Proofs.Ytpkpihcdbgckkaa.S
open Go Go.Proofs Go.Proofs.Bw
set_option maxRecDepth 100000
set_option linter.unusedVariables false
abbrev TboundsError : Ty := .pair (.int .i64) (.pair (.int .i64) (.pair .bool (.pair (.int .u8) .unit)))
abbrev DboundsError : Type := Int × Int × Bool × Int × Unit
abbrev TerrorAddressString : Ty := .pair .str (.pair (.int .u64) .unit)
abbrev DerrorAddressString : Type := (List Int) × Int × Unit
abbrev TPacket : Ty := .pair (.int .u8) (.pair (.int .u8) (.pair (.int .u8) (.pair (.int .u32) (.pair (.int .u32) (.pair .str .unit)))))
abbrev DPacket : Type := Int × Int × Int × Int × Int × (List Int) × Unit
abbrev TDeed : Ty := .pair (.int .i64) (.pair .str (.pair (.int .u64) (.pair TPacket (.pair (.int .u8) (.pair .bool .unit)))))
abbrev DDeed : Type := Int × (List Int) × Int × DPacket × Int × Bool × Unit
abbrev Tpast : Ty := .pair (.int .u8) (.pair (.int .u32) (.pair (.int .u32) (.pair .str .unit)))
abbrev Dpast : Type := Int × Int × Int × (List Int) × Unit
abbrev TCallee : Ty := .pair (.arr 3 Tpast) .unit
abbrev DCallee : Type := (List Dpast) × Unit
abbrev TCaller : Ty := .pair TPacket (.pair .bool (.pair (.int .i64) (.pair (.int .u64) .unit)))
abbrev DCaller : Type := DPacket × Bool × Int × Int × Unit
abbrev TCaller' : Ty := .pair (.int .u8) (.pair (.int .u32) (.pair (.int .u32) (.pair .bool (.pair .str (.pair (.int .i64) (.pair (.int .u64) .unit))))))
abbrev DCaller' : Type := Int × Int × Int × Bool × (List Int) × Int × Int × Unit
abbrev Ttaken : Ty := .pair (.int .i64) (.pair (.int .u32) (.pair (.int .u32) (.pair .str .unit)))
abbrev Dtaken : Type := Int × Int × Int × (List Int) × Unit
abbrev TCallee' : Ty := .pair (.arr 4 Ttaken) .unit
abbrev DCallee' : Type := (List Dtaken) × Unit
abbrev TReader : Ty := .pair (.slB .U false (.int .u8)) (.pair .bool .unit)
abbrev DReader : Type := (List Int) × Bool × Unit
abbrev TReaderX : Ty := .pair (.slX .U (.int .u8)) (.pair .bool .unit)
/-! backwater/rpc.NewCallee -/
abbrev rpc_NewCallee.ps : List (Ty × Bool) := []
abbrev rpc_NewCallee.r : Ty := .box TCallee
abbrev rpc_NewCallee.rs : List RV := [.t 0]
abbrev rpc_NewCallee.R : Type := (rtOf rpc_NewCallee.ps rpc_NewCallee.r).den
noncomputable def rpc_NewCallee.d (n : Nat) : XC :=
  (.seq (.reg (.op (.mv 0 (.c ⟨.nil 1, ()⟩)) none <| .nil)) <|
  (.seq (.reg (.op (.alloc 1 ⟨TCallee, (((List.replicate 3 ((0 : Int), (0 : Int), (0 : Int), ([] : List Int), ())), ()) : DCallee)⟩) none <| .op (.take 0 1) none <| .nil)) <|
  .ret))
noncomputable abbrev rpc_NewCallee.c (n : Nat) : XC := rpc_NewCallee.d n
noncomputable def rpc_NewCallee.f (n : Nat)  : Option DCallee :=
  some ((List.replicate 3 ((0 : Int), (0 : Int), (0 : Int), ([] : List Int), ())), ())
theorem rpc_NewCallee.ok (n : Nat)  : evFn (rpc_NewCallee.c n) rpc_NewCallee.rs rpc_NewCallee.ps rpc_NewCallee.r () = rpc_NewCallee.f n  := by kernel_rfl
noncomputable def rpc_NewCallee.sp (n : Nat) : FSpec := { f := 11, ps := rpc_NewCallee.ps, r := rpc_NewCallee.r, run := fun x => rpc_NewCallee.f n  }
theorem rpc_NewCallee.calls (n : Nat) : (rpc_NewCallee.c n).calls = [] := by kernel_rfl
theorem rpc_NewCallee.fits (n : Nat) : fnB tab hd Try.f11 (rpc_NewCallee.c n) rpc_NewCallee.rs (rpc_NewCallee.sp n).ps (rpc_NewCallee.sp n).r = true := by kernel_rfl
theorem rpc_NewCallee.sound (n : Nat) : Sound Try.prog (rpc_NewCallee.sp n) := by
  refine fnB_sound tabOk eqFacts mixed (fn := Try.f11) (c := rpc_NewCallee.c n) (rs := rpc_NewCallee.rs) (by kernel_rfl) ?_ (rpc_NewCallee.fits n) ?_
  · rw [rpc_NewCallee.calls]
    intro s hs; cases hs
  · rintro ⟨⟩ y h
    exact (rpc_NewCallee.ok n ).trans h
/-! backwater/frame.Right -/
abbrev frame_Right.ps : List (Ty × Bool) := [(TPacket, false)]
abbrev frame_Right.r : Ty := .bool
abbrev frame_Right.rs : List RV := [.t 2]
abbrev frame_Right.R : Type := (rtOf frame_Right.ps frame_Right.r).den
noncomputable def frame_Right.d1 (n : Nat) : XC :=
  (.seq (.reg (.op (.mv 20 (.t 3)) none <| .op (.bin 21 .geq (.t 20) (.c ⟨.int .u8, ((1 : Int) : Int)⟩)) none <| .op (.mv 22 (.t 21)) none <| .grp 22 true (.op (.mv 23 (.t 3)) (some ([3, 22, 23], [23])) <| .op (.bin 24 .leq (.t 23) (.c ⟨.int .u8, ((3 : Int) : Int)⟩)) (some ([22, 23, 24], [24])) <| .nil) 24 25 [23, 24] <| .op (.mv 26 (.t 25)) none <| .grp 26 true (.op (.fa 27 1 4 4) (some ([1, 26, 27], [27])) <| .op (.ld 28 27 1 false) (some ([1, 26, 27, 28], [28])) <| .op (.bin 29 .gtr (.t 28) (.c ⟨.int .u32, ((0 : Int) : Int)⟩)) (some ([26, 28, 29], [29])) <| .nil) 29 30 [27, 28, 29] <| .op (.mv 31 (.t 30)) none <| .grp 31 true (.op (.fa 32 1 5 5) (some ([1, 31, 32], [32])) <| .op (.ld 33 32 1 false) (some ([1, 31, 32, 33], [33])) <| .op (.len 34 (.t 33) true) (some ([31, 33, 34], [34])) <| .op (.bin 35 .leq (.t 34) (.c ⟨.int .i64, ((16384 : Int) : Int)⟩)) (some ([31, 34, 35], [35])) <| .nil) 35 36 [32, 33, 34, 35] <| .op (.mv 2 (.t 36)) none <| .nil)) <|
  .ret)
noncomputable abbrev frame_Right.c1 (n : Nat) : XC := frame_Right.d1 n
noncomputable def frame_Right.j1 (n : Nat) (x1 : DPacket) (x3 : Int) : Option Bool :=
  (bif (decide ((1 : Int) ≤ x3)) then (some (decide (x3 ≤ (3 : Int)))) else some false).bind fun g1 =>
  (bif g1 then (some (decide ((0 : Int) < x1.2.2.2.2.1))) else some false).bind fun g2 =>
  (bif g2 then (some (decide ((x1.2.2.2.2.2.1.length : Int) ≤ (16384 : Int)))) else some false).bind fun g3 =>
  some g3
theorem frame_Right.s1 (n : Nat) (x1 : DPacket) (x3 : Int) : ev (frame_Right.c1 n) [(1, some ⟨.box TPacket, x1⟩), (3, some ⟨.int .u8, x3⟩)] (⟨retK frame_Right.rs frame_Right.ps frame_Right.r, []⟩ : Ks frame_Right.R) (retK frame_Right.rs frame_Right.ps frame_Right.r) = frame_Right.j1 n x1 x3 := by kernel_rfl
noncomputable def frame_Right.H1 (n : Nat) (X : XC) : St → Option frame_Right.R := fun st => ghK [.keep [1, 3]] st fun st => ev X st (⟨retK frame_Right.rs frame_Right.ps frame_Right.r, []⟩ : Ks frame_Right.R) (retK frame_Right.rs frame_Right.ps frame_Right.r)
noncomputable abbrev frame_Right.K1 (n : Nat) : St → Option frame_Right.R := frame_Right.H1 n (frame_Right.c1 n)
noncomputable def frame_Right.d (n : Nat) (X1 : XC) : XC :=
  (.seq (.reg (.op (.boxv 1 (.t 0)) none <| .op (.mv 2 (.c ⟨.bool, (false : Bool)⟩)) none <| .nil)) <|
  (.seq (.reg (.op (.fa 4 1 1 1) none <| .op (.ld 5 4 1 false) none <| .op (.mv 3 (.t 5)) none <| .nil)) <|
  (.seq (.aft (.seq (.reg (.op (.fa 6 1 0 0) none <| .op (.ld 7 6 1 false) none <| .nil)) <|
  (.block 0 (.seq (.reg (.op (.bin 9 .eql (.t 7) (.c ⟨.int .u8, ((1 : Int) : Int)⟩)) none <| .op (.mv 8 (.t 9)) none <| .nil)) <|
  (.cond (.t 8)
  (.seq (.reg (.op (.fa 10 1 2 2) none <| .op (.ld 11 10 1 false) none <| .op (.bin 12 .neq (.t 11) (.c ⟨.int .u8, ((0 : Int) : Int)⟩)) none <| .nil)) <|
  (.cond (.t 12)
  (.seq (.pre [.keep []] (.reg (.op (.mv 2 (.c ⟨.bool, (false : Bool)⟩)) none <| .nil))) <|
  .ret)
  .skip))
  (.seq (.reg (.op (.bin 14 .eql (.t 7) (.c ⟨.int .u8, ((2 : Int) : Int)⟩)) none <| .op (.mv 13 (.t 14)) none <| .nil)) <|
  (.cond (.t 13)
  (.seq (.seq (.pre [.keep [1]] (.reg (.op (.fa 15 1 1 1) none <| .op (.ld 16 15 1 false) none <| .op (.bin 17 .neq (.t 16) (.c ⟨.int .u8, ((0 : Int) : Int)⟩)) none <| .nil))) <|
  (.cond (.t 17)
  (.seq (.reg (.op (.mv 2 (.c ⟨.bool, (false : Bool)⟩)) none <| .nil)) <|
  .ret)
  .skip)) <|
  (.reg (.op (.fa 18 1 2 2) none <| .op (.ld 19 18 1 false) none <| .op (.mv 3 (.t 19)) none <| .nil)))
  (.seq (.pre [.keep []] (.reg (.op (.mv 2 (.c ⟨.bool, (false : Bool)⟩)) none <| .nil))) <|
  .ret))))))) [.keep [1, 3]]) X1)))
noncomputable abbrev frame_Right.c (n : Nat) : XC := frame_Right.d n (frame_Right.c1 n)
noncomputable def frame_Right.f (n : Nat) (a0 : DPacket) : Option Bool :=
  bif (decide (a0.1 = (1 : Int))) then (bif (!decide (a0.2.2.1 = (0 : Int))) then (some false)
  else (frame_Right.j1 n (a0.1, a0.2.1, a0.2.2.1, a0.2.2.2.1, a0.2.2.2.2.1, a0.2.2.2.2.2.1, a0.2.2.2.2.2.2) a0.2.1))
  else (bif (decide (a0.1 = (2 : Int))) then (bif (!decide (a0.2.1 = (0 : Int))) then (some false)
  else (frame_Right.j1 n (a0.1, a0.2.1, a0.2.2.1, a0.2.2.2.1, a0.2.2.2.2.1, a0.2.2.2.2.2.1, a0.2.2.2.2.2.2) a0.2.2.1))
  else (some false))
theorem frame_Right.w (n : Nat) (a0 : DPacket) (X1 : XC) : evFn (frame_Right.d n X1) frame_Right.rs frame_Right.ps frame_Right.r (a0, ()) =
  (bif (decide (a0.1 = (1 : Int))) then (bif (!decide (a0.2.2.1 = (0 : Int))) then (some false)
  else (ev X1 [(1, some ⟨.box TPacket, ((a0.1, a0.2.1, a0.2.2.1, a0.2.2.2.1, a0.2.2.2.2.1, a0.2.2.2.2.2.1, a0.2.2.2.2.2.2) : DPacket)⟩), (3, some ⟨.int .u8, a0.2.1⟩)] (⟨retK frame_Right.rs frame_Right.ps frame_Right.r, []⟩ : Ks frame_Right.R) (retK frame_Right.rs frame_Right.ps frame_Right.r)))
  else (bif (decide (a0.1 = (2 : Int))) then (bif (!decide (a0.2.1 = (0 : Int))) then (some false)
  else (ev X1 [(1, some ⟨.box TPacket, ((a0.1, a0.2.1, a0.2.2.1, a0.2.2.2.1, a0.2.2.2.2.1, a0.2.2.2.2.2.1, a0.2.2.2.2.2.2) : DPacket)⟩), (3, some ⟨.int .u8, a0.2.2.1⟩)] (⟨retK frame_Right.rs frame_Right.ps frame_Right.r, []⟩ : Ks frame_Right.R) (retK frame_Right.rs frame_Right.ps frame_Right.r)))
  else (some false)) : Option frame_Right.R) := by kernel_rfl
theorem frame_Right.ok (n : Nat) (a0 : DPacket) : evFn (frame_Right.c n) frame_Right.rs frame_Right.ps frame_Right.r (a0, ()) = frame_Right.f n a0 := (frame_Right.w n a0 (frame_Right.c1 n)).trans (by simp only [frame_Right.f, frame_Right.s1 n] <;> kernel_rfl)
noncomputable def frame_Right.sp (n : Nat) : FSpec := { f := 32, ps := frame_Right.ps, r := frame_Right.r, run := fun x => frame_Right.f n x.1 }
theorem frame_Right.calls (n : Nat) : (frame_Right.c n).calls = [] := by kernel_rfl
theorem frame_Right.fits (n : Nat) : fnB tab hd Try.f32 (frame_Right.c n) frame_Right.rs (frame_Right.sp n).ps (frame_Right.sp n).r = true := by kernel_rfl
theorem frame_Right.sound (n : Nat) : Sound Try.prog (frame_Right.sp n) := by
  refine fnB_sound tabOk eqFacts mixed (fn := Try.f32) (c := frame_Right.c n) (rs := frame_Right.rs) (by kernel_rfl) ?_ (frame_Right.fits n) ?_
  · rw [frame_Right.calls]
    intro s hs; cases hs
  · rintro ⟨a0, ⟨⟩⟩ y h
    exact (frame_Right.ok n a0).trans h
/-! (backwater/rpc.past).answer -/
abbrev rpc_past_answer.ps : List (Ty × Bool) := [(Tpast, false), (.int .u8, false)]
abbrev rpc_past_answer.r : Ty := TPacket
abbrev rpc_past_answer.rs : List RV := [.c 4 6 true]
abbrev rpc_past_answer.R : Type := (rtOf rpc_past_answer.ps rpc_past_answer.r).den
noncomputable def rpc_past_answer.d (n : Nat) : XC :=
  (.seq (.reg (.op (.boxv 2 (.t 0)) none <| .op (.alloc 4 ⟨TPacket, (((0 : Int), (0 : Int), (0 : Int), (0 : Int), (0 : Int), ([] : List Int), ()) : DPacket)⟩) none <| .nil)) <|
  (.seq (.reg (.op (.mv 5 (.t 1)) none <| .op (.fa 6 2 1 1) none <| .op (.ld 7 6 1 false) none <| .op (.fa 8 2 2 2) none <| .op (.ld 9 8 1 false) none <| .op (.fa 10 2 3 3) none <| .op (.ld 11 10 1 false) none <| .op (.build 12 ⟨TPacket, (((0 : Int), (0 : Int), (0 : Int), (0 : Int), (0 : Int), ([] : List Int), ()) : DPacket)⟩ [(0, (.c ⟨.int .u8, ((2 : Int) : Int)⟩), false), (2, (.t 5), false), (3, (.t 7), false), (4, (.t 9), false), (5, (.t 11), false)]) none <| .op (.st 4 (.t 12) 6) none <| .nil)) <|
  .ret))
noncomputable abbrev rpc_past_answer.c (n : Nat) : XC := rpc_past_answer.d n
noncomputable def rpc_past_answer.f (n : Nat) (a0 : Dpast) (a1 : Int) : Option DPacket :=
  some ((2 : Int), (0 : Int), a1, a0.2.1, a0.2.2.1, a0.2.2.2.1, ())
theorem rpc_past_answer.ok (n : Nat) (a0 : Dpast) (a1 : Int) : evFn (rpc_past_answer.c n) rpc_past_answer.rs rpc_past_answer.ps rpc_past_answer.r (a0, a1, ()) = rpc_past_answer.f n a0 a1 := by kernel_rfl
noncomputable def rpc_past_answer.sp (n : Nat) : FSpec := { f := 33, ps := rpc_past_answer.ps, r := rpc_past_answer.r, run := fun x => rpc_past_answer.f n x.1 x.2.1 }
theorem rpc_past_answer.calls (n : Nat) : (rpc_past_answer.c n).calls = [] := by kernel_rfl
theorem rpc_past_answer.fits (n : Nat) : fnB tab hd Try.f33 (rpc_past_answer.c n) rpc_past_answer.rs (rpc_past_answer.sp n).ps (rpc_past_answer.sp n).r = true := by kernel_rfl
theorem rpc_past_answer.sound (n : Nat) : Sound Try.prog (rpc_past_answer.sp n) := by
  refine fnB_sound tabOk eqFacts mixed (fn := Try.f33) (c := rpc_past_answer.c n) (rs := rpc_past_answer.rs) (by kernel_rfl) ?_ (rpc_past_answer.fits n) ?_
  · rw [rpc_past_answer.calls]
    intro s hs; cases hs
  · rintro ⟨a0, a1, ⟨⟩⟩ y h
    exact (rpc_past_answer.ok n a0 a1).trans h
/-! (*backwater/rpc.Callee).Take -/
abbrev rpc_Callee_Take.ps : List (Ty × Bool) := [(.opt TCallee, true), (TPacket, false)]
abbrev rpc_Callee_Take.r : Ty := .tup (.pair .str (.pair .bool (.pair TPacket (.pair .bool .unit))))
abbrev rpc_Callee_Take.rs : List RV := [.t 4, .t 5, .c 6 6 true, .t 7]
abbrev rpc_Callee_Take.R : Type := (rtOf rpc_Callee_Take.ps rpc_Callee_Take.r).den
noncomputable def rpc_Callee_Take.d (n : Nat) : XC :=
  (.seq (.reg (.op (.boxv 3 (.t 1)) none <| .op (.mv 4 (.c ⟨.str, (([] : List Int) : List Int)⟩)) none <| .op (.mv 5 (.c ⟨.bool, (false : Bool)⟩)) none <| .op (.alloc 6 ⟨TPacket, (((0 : Int), (0 : Int), (0 : Int), (0 : Int), (0 : Int), ([] : List Int), ()) : DPacket)⟩) none <| .op (.mv 7 (.c ⟨.bool, (false : Bool)⟩)) none <| .nil)) <|
  (.seq (.seq (.pre [.split 0 []] (.reg (.op (.bor 11 0) none <| .op (.eqnil 12 (.t 11) false false) none <| .op (.mv 13 (.t 12)) none <| .grp 13 false (.op (.fa 14 3 0 0) (some ([3, 13, 14], [14])) <| .op (.ld 15 14 1 false) (some ([3, 13, 14, 15], [15])) <| .op (.bin 16 .neq (.t 15) (.c ⟨.int .u8, ((1 : Int) : Int)⟩)) (some ([13, 15, 16], [16])) <| .nil) 16 17 [14, 15, 16] <| .op (.mv 18 (.t 17)) none <| .grp 18 false (.op (.ld 19 3 6 true) (some ([3, 18, 19], [19])) <| .op (.call (some 20) (frame_Right.sp n) [.v (.t 19)]) (some ([18, 19, 20], [20])) <| .op (.un 21 .not (.t 20)) (some ([18, 20, 21], [21])) <| .nil) 21 22 [19, 20, 21] <| .nil))) <|
  (.cond (.t 22)
  (.seq (.regD (.op (.mv 23 (.t 4)) (some ([4, 23], [23])) <| .op (.ld 24 6 6 true) (some ([6, 24], [24])) <| .op (.mv 4 (.t 23)) (some ([4, 23], [4])) <| .op (.mv 5 (.c ⟨.bool, (false : Bool)⟩)) (some ([5], [5])) <| .op (.st 6 (.t 24) 6) (some ([6, 24], [6])) <| .op (.mv 7 (.c ⟨.bool, (false : Bool)⟩)) (some ([7], [7])) <| .nil)) <|
  .ret)
  .skip)) <|
  (.seq (.regD (.op (.bor 25 0) (some ([0, 25], [25])) <| .op (.fa 26 3 1 1) (some ([3, 26], [26])) <| .op (.ld 27 26 1 false) (some ([3, 26, 27], [27])) <| .op (.bin 28 .sub (.t 27) (.c ⟨.int .u8, ((1 : Int) : Int)⟩)) (some ([27, 28], [28])) <| .op (.nilchk 29 (.t 25)) (some ([0, 25, 29], [29])) <| .op (.fa 30 29 0 0) (some ([0, 29, 30], [30])) <| .op (.idxA 31 (.t 30) (.t 28) 4 3) (some ([0, 28, 30, 31], [31])) <| .op (.bor 8 31) (some ([0, 8, 31], [8])) <| .nil)) <|
  (.seq (.pre [.keep [0, 3, 4, 6, 8]] (.regD (.op (.bor 32 8) (some ([0, 8, 32], [32])) <| .op (.nilchk 33 (.t 32)) (some ([0, 32, 33], [33])) <| .op (.fa 34 33 0 0) (some ([0, 33, 34], [34])) <| .op (.ld 35 34 1 false) (some ([0, 34, 35], [35])) <| .op (.bin 36 .neq (.t 35) (.c ⟨.int .u8, ((0 : Int) : Int)⟩)) (some ([35, 36], [36])) <| .op (.mv 37 (.t 36)) (some ([36, 37], [37])) <| .grp 37 true (.op (.fa 38 3 3 3) (some ([3, 37, 38], [38])) <| .op (.ld 39 38 1 false) (some ([3, 37, 38, 39], [39])) <| .op (.bor 40 8) (some ([0, 8, 37, 40], [40])) <| .op (.nilchk 41 (.t 40)) (some ([0, 37, 40, 41], [41])) <| .op (.fa 42 41 1 1) (some ([0, 37, 41, 42], [42])) <| .op (.ld 43 42 1 false) (some ([0, 37, 42, 43], [43])) <| .op (.bin 44 .eql (.t 39) (.t 43)) (some ([37, 39, 43, 44], [44])) <| .nil) 44 45 [38, 39, 40, 41, 42, 43, 44] <| .op (.mv 46 (.t 45)) (some ([45, 46], [46])) <| .grp 46 true (.op (.fa 47 3 4 4) (some ([3, 46, 47], [47])) <| .op (.ld 48 47 1 false) (some ([3, 46, 47, 48], [48])) <| .op (.bor 49 8) (some ([0, 8, 46, 49], [49])) <| .op (.nilchk 50 (.t 49)) (some ([0, 46, 49, 50], [50])) <| .op (.fa 51 50 2 2) (some ([0, 46, 50, 51], [51])) <| .op (.ld 52 51 1 false) (some ([0, 46, 51, 52], [52])) <| .op (.bin 53 .eql (.t 48) (.t 52)) (some ([46, 48, 52, 53], [53])) <| .nil) 53 54 [47, 48, 49, 50, 51, 52, 53] <| .op (.mv 9 (.t 54)) (some ([9, 54], [9])) <| .nil))) <|
  (.seq (.regD (.op (.bor 55 8) (some ([0, 8, 55], [55])) <| .op (.nilchk 56 (.t 55)) (some ([0, 55, 56], [56])) <| .op (.fa 57 56 0 0) (some ([0, 56, 57], [57])) <| .op (.ld 58 57 1 false) (some ([0, 57, 58], [58])) <| .op (.bin 59 .eql (.t 58) (.c ⟨.int .u8, ((0 : Int) : Int)⟩)) (some ([58, 59], [59])) <| .op (.mv 60 (.t 59)) (some ([59, 60], [60])) <| .grp 60 false (.op (.fa 61 3 3 3) (some ([3, 60, 61], [61])) <| .op (.ld 62 61 1 false) (some ([3, 60, 61, 62], [62])) <| .op (.bor 63 8) (some ([0, 8, 60, 63], [63])) <| .op (.nilchk 64 (.t 63)) (some ([0, 60, 63, 64], [64])) <| .op (.fa 65 64 1 1) (some ([0, 60, 64, 65], [65])) <| .op (.ld 66 65 1 false) (some ([0, 60, 65, 66], [66])) <| .op (.bin 67 .gtr (.t 62) (.t 66)) (some ([60, 62, 66, 67], [67])) <| .nil) 67 68 [61, 62, 63, 64, 65, 66, 67] <| .op (.mv 69 (.t 68)) (some ([68, 69], [69])) <| .grp 69 false (.op (.fa 70 3 3 3) (some ([3, 69, 70], [70])) <| .op (.ld 71 70 1 false) (some ([3, 69, 70, 71], [71])) <| .op (.bor 72 8) (some ([0, 8, 69, 72], [72])) <| .op (.nilchk 73 (.t 72)) (some ([0, 69, 72, 73], [73])) <| .op (.fa 74 73 1 1) (some ([0, 69, 73, 74], [74])) <| .op (.ld 75 74 1 false) (some ([0, 69, 74, 75], [75])) <| .op (.bin 76 .eql (.t 71) (.t 75)) (some ([69, 71, 75, 76], [76])) <| .op (.mv 77 (.t 76)) (some ([69, 76, 77], [77])) <| .grp 77 true (.op (.fa 78 3 4 4) (some ([3, 77, 78], [78])) <| .op (.ld 79 78 1 false) (some ([3, 77, 78, 79], [79])) <| .op (.bor 80 8) (some ([0, 8, 77, 80], [80])) <| .op (.nilchk 81 (.t 80)) (some ([0, 77, 80, 81], [81])) <| .op (.fa 82 81 2 2) (some ([0, 77, 81, 82], [82])) <| .op (.ld 83 82 1 false) (some ([0, 77, 82, 83], [83])) <| .op (.bin 84 .gtr (.t 79) (.t 83)) (some ([77, 79, 83, 84], [84])) <| .nil) 84 85 [78, 79, 80, 81, 82, 83, 84] <| .nil) 85 86 [70, 71, 72, 73, 74, 75, 76, 77, 78, 79, 80, 81, 82, 83, 84, 85] <| .op (.mv 10 (.t 86)) (some ([10, 86], [10])) <| .nil)) <|
  (.seq (.seq (.pre [.keep [0, 3, 4, 6, 8, 9, 10]] (.reg (.op (.mv 87 (.t 10)) none <| .nil))) <|
  (.cond (.t 87)
  (.seq (.reg (.op (.bor 88 8) none <| .op (.fa 89 3 3 3) none <| .op (.ld 90 89 1 false) none <| .op (.fa 91 3 4 4) none <| .op (.ld 92 91 1 false) none <| .op (.build 93 ⟨Tpast, (((0 : Int), (0 : Int), (0 : Int), ([] : List Int), ()) : Dpast)⟩ [(0, (.c ⟨.int .u8, ((1 : Int) : Int)⟩), false), (1, (.t 90), false), (2, (.t 92), false), (3, (.c ⟨.str, (([] : List Int) : List Int)⟩), false)]) none <| .op (.nilchk 94 (.t 88)) none <| .op (.st 94 (.t 93) 4) none <| .nil)) <|
  (.seq (.pre [.keep [0, 3, 6]] (.regD (.op (.fa 95 3 5 5) (some ([3, 95], [95])) <| .op (.ld 96 95 1 false) (some ([3, 95, 96], [96])) <| .op (.ld 97 6 6 true) (some ([6, 97], [97])) <| .op (.mv 4 (.t 96)) (some ([4, 96], [4])) <| .op (.mv 5 (.c ⟨.bool, (true : Bool)⟩)) (some ([5], [5])) <| .op (.st 6 (.t 97) 6) (some ([6, 97], [6])) <| .op (.mv 7 (.c ⟨.bool, (false : Bool)⟩)) (some ([7], [7])) <| .nil))) <|
  .ret))
  .skip)) <|
  (.seq (.seq (.reg (.op (.mv 98 (.t 9)) none <| .op (.mv 99 (.t 98)) none <| .grp 99 true (.op (.bor 100 8) (some ([0, 8, 99, 100], [100])) <| .op (.nilchk 101 (.t 100)) (some ([0, 99, 100, 101], [101])) <| .op (.fa 102 101 0 0) (some ([0, 99, 101, 102], [102])) <| .op (.ld 103 102 1 false) (some ([0, 99, 102, 103], [103])) <| .op (.bin 104 .eql (.t 103) (.c ⟨.int .u8, ((2 : Int) : Int)⟩)) (some ([99, 103, 104], [104])) <| .nil) 104 105 [100, 101, 102, 103, 104] <| .nil)) <|
  (.cond (.t 105)
  (.seq (.regD (.op (.mv 106 (.t 4)) (some ([4, 106], [106])) <| .op (.bor 107 8) (some ([0, 8, 107], [107])) <| .op (.nilchk 108 (.t 107)) (some ([0, 107, 108], [108])) <| .op (.ld 109 108 4 true) (some ([0, 108, 109], [109])) <| .op (.fa 110 3 1 1) (some ([3, 110], [110])) <| .op (.ld 111 110 1 false) (some ([3, 110, 111], [111])) <| .op (.call (some 112) (rpc_past_answer.sp n) [.v (.t 109), .v (.t 111)]) (some ([109, 111, 112], [112])) <| .op (.mv 4 (.t 106)) (some ([4, 106], [4])) <| .op (.mv 5 (.c ⟨.bool, (false : Bool)⟩)) (some ([5], [5])) <| .op (.st 6 (.t 112) 6) (some ([6, 112], [6])) <| .op (.mv 7 (.c ⟨.bool, (true : Bool)⟩)) (some ([7], [7])) <| .nil)) <|
  .ret)
  .skip)) <|
  (.seq (.regD (.op (.mv 113 (.t 4)) (some ([4, 113], [113])) <| .op (.ld 114 6 6 true) (some ([6, 114], [114])) <| .op (.mv 4 (.t 113)) (some ([4, 113], [4])) <| .op (.mv 5 (.c ⟨.bool, (false : Bool)⟩)) (some ([5], [5])) <| .op (.st 6 (.t 114) 6) (some ([6, 114], [6])) <| .op (.mv 7 (.c ⟨.bool, (false : Bool)⟩)) (some ([7], [7])) <| .nil)) <|
  .ret))))))))
noncomputable abbrev rpc_Callee_Take.c (n : Nat) : XC := rpc_Callee_Take.d n
noncomputable def rpc_Callee_Take.f (n : Nat) (a0 : Option DCallee) (a1 : DPacket) : Option ((Option DCallee) × ((List Int) × Bool × DPacket × Bool × Unit)) :=
  optM a0 (some (none, ([] : List Int), false, ((0 : Int), (0 : Int), (0 : Int), (0 : Int), (0 : Int), ([] : List Int), ()), false, ())) fun p1 => (some (!decide (a1.1 = (1 : Int)))).bind fun g2 =>
  (bif g2 then some true else ((frame_Right.f n (a1.1, a1.2.1, a1.2.2.1, a1.2.2.2.1, a1.2.2.2.2.1, a1.2.2.2.2.2.1, a1.2.2.2.2.2.2)).bind fun r4 => some (!r4))).bind fun g3 =>
  bif g3 then (some ((some (p1.1, p1.2)), ([] : List Int), false, ((0 : Int), (0 : Int), (0 : Int), (0 : Int), (0 : Int), ([] : List Int), ()), false, ()))
  else (inK' (IntKind.u8.wrap (a1.2.1 - (1 : Int))) 3 ((lnth p1.1 (IntKind.u8.wrap (a1.2.1 - (1 : Int)))).bind fun e5 => (bif (!decide (e5.1 = (0 : Int))) then ((lnth p1.1 (IntKind.u8.wrap (a1.2.1 - (1 : Int)))).bind fun e7 => some (decide (a1.2.2.2.1 = e7.2.1))) else some false).bind fun g6 =>
  (bif g6 then ((lnth p1.1 (IntKind.u8.wrap (a1.2.1 - (1 : Int)))).bind fun e9 => some (decide (a1.2.2.2.2.1 = e9.2.2.1))) else some false).bind fun g8 =>
  (lnth p1.1 (IntKind.u8.wrap (a1.2.1 - (1 : Int)))).bind fun e10 => (bif (decide (e10.1 = (0 : Int))) then some true else ((lnth p1.1 (IntKind.u8.wrap (a1.2.1 - (1 : Int)))).bind fun e12 => some (decide (e12.2.1 < a1.2.2.2.1)))).bind fun g11 =>
  (bif g11 then some true else ((lnth p1.1 (IntKind.u8.wrap (a1.2.1 - (1 : Int)))).bind fun e14 => (bif (decide (a1.2.2.2.1 = e14.2.1)) then ((lnth p1.1 (IntKind.u8.wrap (a1.2.1 - (1 : Int)))).bind fun e16 => some (decide (e16.2.2.1 < a1.2.2.2.2.1))) else some false).bind fun g15 =>
  some g15)).bind fun g13 =>
  bif g13 then (some ((some ((lset p1.1 (IntKind.u8.wrap (a1.2.1 - (1 : Int))) ((1 : Int), a1.2.2.2.1, a1.2.2.2.2.1, ([] : List Int), ())), p1.2)), a1.2.2.2.2.2.1, true, ((0 : Int), (0 : Int), (0 : Int), (0 : Int), (0 : Int), ([] : List Int), ()), false, ()))
  else ((bif g8 then ((lnth p1.1 (IntKind.u8.wrap (a1.2.1 - (1 : Int)))).bind fun e18 => some (decide (e18.1 = (2 : Int)))) else some false).bind fun g17 =>
  bif g17 then ((lnth p1.1 (IntKind.u8.wrap (a1.2.1 - (1 : Int)))).bind fun e19 => (rpc_past_answer.f n (e19.1, e19.2.1, e19.2.2.1, e19.2.2.2.1, e19.2.2.2.2) a1.2.1).bind fun r20 => some ((some (p1.1, p1.2)), ([] : List Int), false, (r20.1, r20.2.1, r20.2.2.1, r20.2.2.2.1, r20.2.2.2.2.1, r20.2.2.2.2.2.1, r20.2.2.2.2.2.2), true, ()))
  else (some ((some (p1.1, p1.2)), ([] : List Int), false, ((0 : Int), (0 : Int), (0 : Int), (0 : Int), (0 : Int), ([] : List Int), ()), false, ())))))
theorem rpc_Callee_Take.ok (n : Nat) (a0 : Option DCallee) (a1 : DPacket) : evFn (rpc_Callee_Take.c n) rpc_Callee_Take.rs rpc_Callee_Take.ps rpc_Callee_Take.r (a0, a1, ()) = rpc_Callee_Take.f n a0 a1 := by kernel_rfl
noncomputable def rpc_Callee_Take.sp (n : Nat) : FSpec := { f := 12, ps := rpc_Callee_Take.ps, r := rpc_Callee_Take.r, run := fun x => rpc_Callee_Take.f n x.1 x.2.1 }
theorem rpc_Callee_Take.calls (n : Nat) : (rpc_Callee_Take.c n).calls = [frame_Right.sp n, rpc_past_answer.sp n] := by kernel_rfl
theorem rpc_Callee_Take.fits (n : Nat) : fnB tab hd Try.f12 (rpc_Callee_Take.c n) rpc_Callee_Take.rs (rpc_Callee_Take.sp n).ps (rpc_Callee_Take.sp n).r = true := by kernel_rfl
theorem rpc_Callee_Take.sound (n : Nat) : Sound Try.prog (rpc_Callee_Take.sp n) := by
  refine fnB_sound tabOk eqFacts mixed (fn := Try.f12) (c := rpc_Callee_Take.c n) (rs := rpc_Callee_Take.rs) (by kernel_rfl) ?_ (rpc_Callee_Take.fits n) ?_
  · rw [rpc_Callee_Take.calls]
    intro s hs
    simp only [List.mem_cons, List.not_mem_nil, or_false] at hs
    rcases hs with rfl | rfl
    · exact frame_Right.sound n
    · exact rpc_past_answer.sound n
  · rintro ⟨a0, a1, ⟨⟩⟩ y h
    exact (rpc_Callee_Take.ok n a0 a1).trans h
/-! backwater/rpc.NewCaller -/
abbrev rpc_NewCaller.ps : List (Ty × Bool) := [(.int .u8, false), (.int .u32, false)]
abbrev rpc_NewCaller.r : Ty := .opt TCaller
abbrev rpc_NewCaller.rs : List RV := [.t 4]
abbrev rpc_NewCaller.R : Type := (rtOf rpc_NewCaller.ps rpc_NewCaller.r).den
noncomputable def rpc_NewCaller.d (n : Nat) : XC :=
  (.seq (.reg (.op (.mv 4 (.c ⟨.nil 1, ()⟩)) none <| .nil)) <|
  (.seq (.seq (.reg (.op (.mv 5 (.t 0)) none <| .op (.bin 6 .eql (.t 5) (.c ⟨.int .u8, ((0 : Int) : Int)⟩)) none <| .op (.mv 7 (.t 6)) none <| .grp 7 false (.op (.mv 8 (.t 0)) (some ([0, 7, 8], [8])) <| .op (.bin 9 .gtr (.t 8) (.c ⟨.int .u8, ((3 : Int) : Int)⟩)) (some ([7, 8, 9], [9])) <| .nil) 9 10 [8, 9] <| .nil)) <|
  (.cond (.t 10)
  (.seq (.reg (.op (.mv 4 (.c ⟨.nil 1, ()⟩)) none <| .nil)) <|
  .ret)
  .skip)) <|
  (.seq (.reg (.op (.mv 11 (.t 0)) none <| .op (.mv 12 (.t 1)) none <| .op (.build 13 ⟨TPacket, (((0 : Int), (0 : Int), (0 : Int), (0 : Int), (0 : Int), ([] : List Int), ()) : DPacket)⟩ [(0, (.c ⟨.int .u8, ((1 : Int) : Int)⟩), false), (1, (.t 11), false), (3, (.t 12), false)]) none <| .op (.build 14 ⟨TCaller, ((((0 : Int), (0 : Int), (0 : Int), (0 : Int), (0 : Int), ([] : List Int), ()), false, (0 : Int), (0 : Int), ()) : DCaller)⟩ [(0, (.t 13), false)]) none <| .op (.boxv 15 (.t 14)) none <| .op (.take 4 15) none <| .nil)) <|
  .ret)))
noncomputable abbrev rpc_NewCaller.c (n : Nat) : XC := rpc_NewCaller.d n
noncomputable def rpc_NewCaller.f (n : Nat) (a0 : Int) (a1 : Int) : Option (Option DCaller) :=
  (bif (decide (a0 = (0 : Int))) then some true else (some (decide ((3 : Int) < a0)))).bind fun g1 =>
  bif g1 then (some none)
  else (some (some (((1 : Int), a0, (0 : Int), a1, (0 : Int), ([] : List Int), ()), false, (0 : Int), (0 : Int), ())))
theorem rpc_NewCaller.ok (n : Nat) (a0 : Int) (a1 : Int) : evFn (rpc_NewCaller.c n) rpc_NewCaller.rs rpc_NewCaller.ps rpc_NewCaller.r (a0, a1, ()) = rpc_NewCaller.f n a0 a1 := by kernel_rfl
noncomputable def rpc_NewCaller.sp (n : Nat) : FSpec := { f := 14, ps := rpc_NewCaller.ps, r := rpc_NewCaller.r, run := fun x => rpc_NewCaller.f n x.1 x.2.1 }
theorem rpc_NewCaller.calls (n : Nat) : (rpc_NewCaller.c n).calls = [] := by kernel_rfl
theorem rpc_NewCaller.fits (n : Nat) : fnB tab hd Try.f14 (rpc_NewCaller.c n) rpc_NewCaller.rs (rpc_NewCaller.sp n).ps (rpc_NewCaller.sp n).r = true := by kernel_rfl
theorem rpc_NewCaller.sound (n : Nat) : Sound Try.prog (rpc_NewCaller.sp n) := by
  refine fnB_sound tabOk eqFacts mixed (fn := Try.f14) (c := rpc_NewCaller.c n) (rs := rpc_NewCaller.rs) (by kernel_rfl) ?_ (rpc_NewCaller.fits n) ?_
  · rw [rpc_NewCaller.calls]
    intro s hs; cases hs
  · rintro ⟨a0, a1, ⟨⟩⟩ y h
    exact (rpc_NewCaller.ok n a0 a1).trans h
/-! (*backwater/rpc.Caller).Call -/
abbrev rpc_Caller_Call.ps : List (Ty × Bool) := [(.opt TCaller, true), (.str, false)]
abbrev rpc_Caller_Call.r : Ty := .int .i64
abbrev rpc_Caller_Call.rs : List RV := [.t 4]
abbrev rpc_Caller_Call.R : Type := (rtOf rpc_Caller_Call.ps rpc_Caller_Call.r).den
noncomputable def rpc_Caller_Call.d1 (n : Nat) : XC :=
  (.seq (.reg (.op (.bor 24 0) none <| .op (.nilchk 25 (.t 24)) none <| .op (.fa 26 25 0 0) none <| .op (.fa 27 26 4 4) none <| .op (.ld 28 27 1 false) none <| .op (.bin 29 .add (.t 28) (.c ⟨.int .u32, ((1 : Int) : Int)⟩)) none <| .op (.nilchk 30 (.t 24)) none <| .op (.fa 31 30 0 0) none <| .op (.fa 32 31 4 4) none <| .op (.st 32 (.t 29) 1) none <| .nil)) <|
  (.seq (.reg (.op (.bor 33 0) none <| .op (.mv 34 (.t 1)) none <| .op (.nilchk 35 (.t 33)) none <| .op (.fa 36 35 0 0) none <| .op (.fa 37 36 5 5) none <| .op (.st 37 (.t 34) 1) none <| .nil)) <|
  (.seq (.pre [.keep [0]] (.reg (.op (.bor 38 0) none <| .op (.bor 39 0) none <| .op (.bor 40 0) none <| .op (.nilchk 41 (.t 38)) none <| .op (.fa 42 41 1 6) none <| .op (.st 42 (.c ⟨.bool, (true : Bool)⟩) 1) none <| .op (.nilchk 43 (.t 39)) none <| .op (.fa 44 43 2 7) none <| .op (.st 44 (.c ⟨.int .i64, ((0 : Int) : Int)⟩) 1) none <| .op (.nilchk 45 (.t 40)) none <| .op (.fa 46 45 3 8) none <| .op (.st 46 (.c ⟨.int .u64, ((0 : Int) : Int)⟩) 1) none <| .nil))) <|
  (.seq (.reg (.op (.mv 4 (.c ⟨.int .i64, ((0 : Int) : Int)⟩)) none <| .nil)) <|
  .ret))))
noncomputable abbrev rpc_Caller_Call.c1 (n : Nat) : XC := rpc_Caller_Call.d1 n
noncomputable def rpc_Caller_Call.j1 (n : Nat) (x0 : DCaller) (x1 : List Int) : Option ((Option DCaller) × Int) :=
  some ((some ((x0.1.1, x0.1.2.1, x0.1.2.2.1, x0.1.2.2.2.1, (IntKind.u32.wrap (x0.1.2.2.2.2.1 + (1 : Int))), x1, x0.1.2.2.2.2.2.2), true, (0 : Int), (0 : Int), x0.2.2.2.2)), (0 : Int))
theorem rpc_Caller_Call.s1 (n : Nat) (x0 : DCaller) (x1 : List Int) : ev (rpc_Caller_Call.c1 n) [(0, some ⟨.box TCaller, x0⟩), (1, some ⟨.str, x1⟩)] (⟨retK rpc_Caller_Call.rs rpc_Caller_Call.ps rpc_Caller_Call.r, []⟩ : Ks rpc_Caller_Call.R) (retK rpc_Caller_Call.rs rpc_Caller_Call.ps rpc_Caller_Call.r) = rpc_Caller_Call.j1 n x0 x1 := by kernel_rfl
noncomputable def rpc_Caller_Call.H1 (n : Nat) (X : XC) : St → Option rpc_Caller_Call.R := fun st => ghK [.keep [0, 1]] st fun st => ev X st (⟨retK rpc_Caller_Call.rs rpc_Caller_Call.ps rpc_Caller_Call.r, []⟩ : Ks rpc_Caller_Call.R) (retK rpc_Caller_Call.rs rpc_Caller_Call.ps rpc_Caller_Call.r)
noncomputable abbrev rpc_Caller_Call.K1 (n : Nat) : St → Option rpc_Caller_Call.R := rpc_Caller_Call.H1 n (rpc_Caller_Call.c1 n)
noncomputable def rpc_Caller_Call.d (n : Nat) (X1 : XC) : XC :=
  (.seq (.reg (.op (.mv 4 (.c ⟨.int .i64, ((0 : Int) : Int)⟩)) none <| .nil)) <|
  (.seq (.aft (.block 0 (.seq (.pre [.split 0 []] (.reg (.op (.bor 6 0) none <| .op (.eqnil 7 (.t 6) false false) none <| .op (.mv 5 (.t 7)) none <| .nil))) <|
  (.cond (.t 5)
  (.seq (.reg (.op (.mv 4 (.c ⟨.int .i64, ((1 : Int) : Int)⟩)) none <| .nil)) <|
  .ret)
  (.seq (.reg (.op (.bor 9 0) none <| .op (.nilchk 10 (.t 9)) none <| .op (.fa 11 10 1 6) none <| .op (.ld 12 11 1 false) none <| .op (.mv 8 (.t 12)) none <| .nil)) <|
  (.cond (.t 8)
  (.seq (.reg (.op (.mv 4 (.c ⟨.int .i64, ((13 : Int) : Int)⟩)) none <| .nil)) <|
  .ret)
  (.seq (.reg (.op (.mv 14 (.t 1)) none <| .op (.len 15 (.t 14) true) none <| .op (.bin 16 .gtr (.t 15) (.c ⟨.int .i64, ((16384 : Int) : Int)⟩)) none <| .op (.mv 13 (.t 16)) none <| .nil)) <|
  (.cond (.t 13)
  (.seq (.pre [.keep [0]] (.reg (.op (.mv 4 (.c ⟨.int .i64, ((3 : Int) : Int)⟩)) none <| .nil))) <|
  .ret)
  (.seq (.pre [.keep [0, 1]] (.reg (.op (.bor 18 0) none <| .op (.nilchk 19 (.t 18)) none <| .op (.fa 20 19 0 0) none <| .op (.fa 21 20 4 4) none <| .op (.ld 22 21 1 false) none <| .op (.bin 23 .eql (.t 22) (.c ⟨.int .u32, ((4294967295 : Int) : Int)⟩)) none <| .op (.mv 17 (.t 23)) none <| .nil))) <|
  (.cond (.t 17)
  (.seq (.reg (.op (.mv 4 (.c ⟨.int .i64, ((2 : Int) : Int)⟩)) none <| .nil)) <|
  .ret)
  .skip))))))))) [.keep [0, 1]]) X1))
noncomputable abbrev rpc_Caller_Call.c (n : Nat) : XC := rpc_Caller_Call.d n (rpc_Caller_Call.c1 n)
noncomputable def rpc_Caller_Call.f (n : Nat) (a0 : Option DCaller) (a1 : List Int) : Option ((Option DCaller) × Int) :=
  optM a0 (some (none, (1 : Int))) fun p1 => bif p1.2.1 then (some ((some ((p1.1.1, p1.1.2.1, p1.1.2.2.1, p1.1.2.2.2.1, p1.1.2.2.2.2.1, p1.1.2.2.2.2.2.1, p1.1.2.2.2.2.2.2), p1.2.1, p1.2.2.1, p1.2.2.2.1, p1.2.2.2.2)), (13 : Int)))
  else (bif (decide ((16384 : Int) < (a1.length : Int))) then (some ((some ((p1.1.1, p1.1.2.1, p1.1.2.2.1, p1.1.2.2.2.1, p1.1.2.2.2.2.1, p1.1.2.2.2.2.2.1, p1.1.2.2.2.2.2.2), p1.2.1, p1.2.2.1, p1.2.2.2.1, p1.2.2.2.2)), (3 : Int)))
  else (bif (decide (p1.1.2.2.2.2.1 = (4294967295 : Int))) then (some ((some ((p1.1.1, p1.1.2.1, p1.1.2.2.1, p1.1.2.2.2.1, p1.1.2.2.2.2.1, p1.1.2.2.2.2.2.1, p1.1.2.2.2.2.2.2), p1.2.1, p1.2.2.1, p1.2.2.2.1, p1.2.2.2.2)), (2 : Int)))
  else (rpc_Caller_Call.j1 n ((p1.1.1, p1.1.2.1, p1.1.2.2.1, p1.1.2.2.2.1, p1.1.2.2.2.2.1, p1.1.2.2.2.2.2.1, p1.1.2.2.2.2.2.2), p1.2.1, p1.2.2.1, p1.2.2.2.1, p1.2.2.2.2) a1)))
theorem rpc_Caller_Call.w (n : Nat) (a0 : Option DCaller) (a1 : List Int) (X1 : XC) : evFn (rpc_Caller_Call.d n X1) rpc_Caller_Call.rs rpc_Caller_Call.ps rpc_Caller_Call.r (a0, a1, ()) =
  (optM a0 (some (none, (1 : Int))) fun p1 => bif p1.2.1 then (some ((some ((p1.1.1, p1.1.2.1, p1.1.2.2.1, p1.1.2.2.2.1, p1.1.2.2.2.2.1, p1.1.2.2.2.2.2.1, p1.1.2.2.2.2.2.2), p1.2.1, p1.2.2.1, p1.2.2.2.1, p1.2.2.2.2)), (13 : Int)))
  else (bif (decide ((16384 : Int) < (a1.length : Int))) then (some ((some ((p1.1.1, p1.1.2.1, p1.1.2.2.1, p1.1.2.2.2.1, p1.1.2.2.2.2.1, p1.1.2.2.2.2.2.1, p1.1.2.2.2.2.2.2), p1.2.1, p1.2.2.1, p1.2.2.2.1, p1.2.2.2.2)), (3 : Int)))
  else (bif (decide (p1.1.2.2.2.2.1 = (4294967295 : Int))) then (some ((some ((p1.1.1, p1.1.2.1, p1.1.2.2.1, p1.1.2.2.2.1, p1.1.2.2.2.2.1, p1.1.2.2.2.2.2.1, p1.1.2.2.2.2.2.2), p1.2.1, p1.2.2.1, p1.2.2.2.1, p1.2.2.2.2)), (2 : Int)))
  else (ev X1 [(0, some ⟨.box TCaller, (((p1.1.1, p1.1.2.1, p1.1.2.2.1, p1.1.2.2.2.1, p1.1.2.2.2.2.1, p1.1.2.2.2.2.2.1, p1.1.2.2.2.2.2.2), p1.2.1, p1.2.2.1, p1.2.2.2.1, p1.2.2.2.2) : DCaller)⟩), (1, some ⟨.str, a1⟩)] (⟨retK rpc_Caller_Call.rs rpc_Caller_Call.ps rpc_Caller_Call.r, []⟩ : Ks rpc_Caller_Call.R) (retK rpc_Caller_Call.rs rpc_Caller_Call.ps rpc_Caller_Call.r)))) : Option rpc_Caller_Call.R) := by kernel_rfl
theorem rpc_Caller_Call.ok (n : Nat) (a0 : Option DCaller) (a1 : List Int) : evFn (rpc_Caller_Call.c n) rpc_Caller_Call.rs rpc_Caller_Call.ps rpc_Caller_Call.r (a0, a1, ()) = rpc_Caller_Call.f n a0 a1 := (rpc_Caller_Call.w n a0 a1 (rpc_Caller_Call.c1 n)).trans (by simp only [rpc_Caller_Call.f, rpc_Caller_Call.s1 n] <;> kernel_rfl)
noncomputable def rpc_Caller_Call.sp (n : Nat) : FSpec := { f := 15, ps := rpc_Caller_Call.ps, r := rpc_Caller_Call.r, run := fun x => rpc_Caller_Call.f n x.1 x.2.1 }
theorem rpc_Caller_Call.calls (n : Nat) : (rpc_Caller_Call.c n).calls = [] := by kernel_rfl
theorem rpc_Caller_Call.fits (n : Nat) : fnB tab hd Try.f15 (rpc_Caller_Call.c n) rpc_Caller_Call.rs (rpc_Caller_Call.sp n).ps (rpc_Caller_Call.sp n).r = true := by kernel_rfl
theorem rpc_Caller_Call.sound (n : Nat) : Sound Try.prog (rpc_Caller_Call.sp n) := by
  refine fnB_sound tabOk eqFacts mixed (fn := Try.f15) (c := rpc_Caller_Call.c n) (rs := rpc_Caller_Call.rs) (by kernel_rfl) ?_ (rpc_Caller_Call.fits n) ?_
  · rw [rpc_Caller_Call.calls]
    intro s hs; cases hs
  · rintro ⟨a0, a1, ⟨⟩⟩ y h
    exact (rpc_Caller_Call.ok n a0 a1).trans h
/-! (*backwater/rpc.Caller).Tick -/
abbrev rpc_Caller_Tick.ps : List (Ty × Bool) := [(.opt TCaller, true), (.int .u64, false)]
abbrev rpc_Caller_Tick.r : Ty := .tup (.pair TPacket (.pair .bool .unit))
abbrev rpc_Caller_Tick.rs : List RV := [.c 4 6 true, .t 5]
abbrev rpc_Caller_Tick.R : Type := (rtOf rpc_Caller_Tick.ps rpc_Caller_Tick.r).den
noncomputable def rpc_Caller_Tick.d1 (n : Nat) : XC :=
  (.seq .skip <|
  (.seq (.reg (.op (.ld 52 4 6 true) none <| .op (.st 4 (.t 52) 6) none <| .op (.mv 5 (.c ⟨.bool, (false : Bool)⟩)) none <| .nil)) <|
  .ret))
noncomputable abbrev rpc_Caller_Tick.c1 (n : Nat) : XC := rpc_Caller_Tick.d1 n
noncomputable def rpc_Caller_Tick.j1 (n : Nat) (x0 : Option DCaller) (x4 : DPacket) : Option ((Option DCaller) × (DPacket × Bool × Unit)) :=
  some (x0, (x4.1, x4.2.1, x4.2.2.1, x4.2.2.2.1, x4.2.2.2.2.1, x4.2.2.2.2.2.1, x4.2.2.2.2.2.2), false, ())
theorem rpc_Caller_Tick.s1 (n : Nat) (x0 : Option DCaller) (x4 : DPacket) : ev (rpc_Caller_Tick.c1 n) [(0, some ⟨.opt TCaller, x0⟩), (4, some ⟨.box TPacket, x4⟩)] (⟨retK rpc_Caller_Tick.rs rpc_Caller_Tick.ps rpc_Caller_Tick.r, [(1000000, (fun _ => none))]⟩ : Ks rpc_Caller_Tick.R) (retK rpc_Caller_Tick.rs rpc_Caller_Tick.ps rpc_Caller_Tick.r) = rpc_Caller_Tick.j1 n x0 x4 := by kernel_rfl
noncomputable def rpc_Caller_Tick.H1 (n : Nat) (X : XC) : St → Option rpc_Caller_Tick.R := fun st => ghK [.coe 0 (.opt TCaller), .keep [0, 4]] st fun st => ev X st (⟨retK rpc_Caller_Tick.rs rpc_Caller_Tick.ps rpc_Caller_Tick.r, [(1000000, (fun _ => none))]⟩ : Ks rpc_Caller_Tick.R) (retK rpc_Caller_Tick.rs rpc_Caller_Tick.ps rpc_Caller_Tick.r)
noncomputable abbrev rpc_Caller_Tick.K1 (n : Nat) : St → Option rpc_Caller_Tick.R := rpc_Caller_Tick.H1 n (rpc_Caller_Tick.c1 n)
noncomputable def rpc_Caller_Tick.d (n : Nat) (X1 : XC) : XC :=
  (.seq (.reg (.op (.alloc 4 ⟨TPacket, (((0 : Int), (0 : Int), (0 : Int), (0 : Int), (0 : Int), ([] : List Int), ()) : DPacket)⟩) none <| .op (.mv 5 (.c ⟨.bool, (false : Bool)⟩)) none <| .nil)) <|
  (.scope 0 (.seq (.seq (.pre [.split 0 []] (.reg (.op (.bor 6 0) none <| .op (.eqnil 7 (.t 6) false false) none <| .op (.mv 8 (.t 7)) none <| .grp 8 false (.op (.bor 9 0) (some ([0, 8, 9], [9])) <| .op (.nilchk 10 (.t 9)) (some ([0, 8, 9, 10], [10])) <| .op (.fa 11 10 1 6) (some ([0, 8, 10, 11], [11])) <| .op (.ld 12 11 1 false) (some ([0, 8, 11, 12], [12])) <| .op (.un 13 .not (.t 12)) (some ([8, 12, 13], [13])) <| .nil) 13 14 [9, 10, 11, 12, 13] <| .nil))) <|
  (.cond (.t 14)
  (.pre [.keep [0, 4]] (.goto 0))
  .skip)) <|
  (.seq (.seq (.reg (.op (.bor 15 0) none <| .op (.nilchk 16 (.t 15)) none <| .op (.fa 17 16 2 7) none <| .op (.ld 18 17 1 false) none <| .op (.bin 19 .gtr (.t 18) (.c ⟨.int .i64, ((0 : Int) : Int)⟩)) none <| .op (.mv 20 (.t 19)) none <| .grp 20 true (.op (.mv 21 (.t 1)) (some ([1, 20, 21], [21])) <| .op (.bor 22 0) (some ([0, 20, 22], [22])) <| .op (.nilchk 23 (.t 22)) (some ([0, 20, 22, 23], [23])) <| .op (.fa 24 23 3 8) (some ([0, 20, 23, 24], [24])) <| .op (.ld 25 24 1 false) (some ([0, 20, 24, 25], [25])) <| .op (.bin 26 .lss (.t 21) (.t 25)) (some ([20, 21, 25, 26], [26])) <| .op (.mv 27 (.t 26)) (some ([20, 26, 27], [27])) <| .grp 27 false (.op (.mv 28 (.t 1)) (some ([1, 27, 28], [28])) <| .op (.bor 29 0) (some ([0, 27, 29], [29])) <| .op (.nilchk 30 (.t 29)) (some ([0, 27, 29, 30], [30])) <| .op (.fa 31 30 3 8) (some ([0, 27, 30, 31], [31])) <| .op (.ld 32 31 1 false) (some ([0, 27, 31, 32], [32])) <| .op (.bin 33 .sub (.t 28) (.t 32)) (some ([27, 28, 32, 33], [33])) <| .op (.bin 34 .lss (.t 33) (.c ⟨.int .u64, ((4 : Int) : Int)⟩)) (some ([27, 33, 34], [34])) <| .nil) 34 35 [28, 29, 30, 31, 32, 33, 34] <| .nil) 35 36 [21, 22, 23, 24, 25, 26, 27, 28, 29, 30, 31, 32, 33, 34, 35] <| .nil)) <|
  (.cond (.t 36)
  (.pre [.keep [0, 4]] (.goto 0))
  .skip)) <|
  (.seq (.pre [.keep [0, 1, 4]] (.reg (.op (.bor 37 0) none <| .op (.nilchk 38 (.t 37)) none <| .op (.fa 39 38 2 7) none <| .op (.ld 40 39 1 false) none <| .op (.bin 41 .add (.t 40) (.c ⟨.int .i64, ((1 : Int) : Int)⟩)) none <| .op (.nilchk 42 (.t 37)) none <| .op (.fa 43 42 2 7) none <| .op (.st 43 (.t 41) 1) none <| .nil))) <|
  (.seq (.reg (.op (.bor 44 0) none <| .op (.mv 45 (.t 1)) none <| .op (.nilchk 46 (.t 44)) none <| .op (.fa 47 46 3 8) none <| .op (.st 47 (.t 45) 1) none <| .nil)) <|
  (.seq (.aft (.seq (.pre [.keep [0, 4]] (.reg (.op (.bor 48 0) none <| .op (.nilchk 49 (.t 48)) none <| .op (.fa 50 49 0 0) none <| .op (.ld 51 50 6 true) none <| .op (.st 4 (.t 51) 6) none <| .op (.mv 5 (.c ⟨.bool, (true : Bool)⟩)) none <| .nil))) <|
  .ret) [.coe 0 (.opt TCaller), .keep [0, 4]]) (.drop X1)))))) (.pre [.coe 0 (.opt TCaller), .keep [0, 4]] X1)))
noncomputable abbrev rpc_Caller_Tick.c (n : Nat) : XC := rpc_Caller_Tick.d n (rpc_Caller_Tick.c1 n)
noncomputable def rpc_Caller_Tick.f (n : Nat) (a0 : Option DCaller) (a1 : Int) : Option ((Option DCaller) × (DPacket × Bool × Unit)) :=
  optM a0 (rpc_Caller_Tick.j1 n none ((0 : Int), (0 : Int), (0 : Int), (0 : Int), (0 : Int), ([] : List Int), ())) fun p1 => (some (!p1.2.1)).bind fun g2 =>
  bif g2 then (rpc_Caller_Tick.j1 n (some ((p1.1.1, p1.1.2.1, p1.1.2.2.1, p1.1.2.2.2.1, p1.1.2.2.2.2.1, p1.1.2.2.2.2.2.1, p1.1.2.2.2.2.2.2), p1.2.1, p1.2.2.1, p1.2.2.2.1, p1.2.2.2.2)) ((0 : Int), (0 : Int), (0 : Int), (0 : Int), (0 : Int), ([] : List Int), ()))
  else ((bif (decide ((0 : Int) < p1.2.2.1)) then ((bif (decide (a1 < p1.2.2.2.1)) then some true else (some (decide ((IntKind.u64.wrap (a1 - p1.2.2.2.1)) < (4 : Int))))).bind fun g4 =>
  some g4) else some false).bind fun g3 =>
  bif g3 then (rpc_Caller_Tick.j1 n (some ((p1.1.1, p1.1.2.1, p1.1.2.2.1, p1.1.2.2.2.1, p1.1.2.2.2.2.1, p1.1.2.2.2.2.2.1, p1.1.2.2.2.2.2.2), p1.2.1, p1.2.2.1, p1.2.2.2.1, p1.2.2.2.2)) ((0 : Int), (0 : Int), (0 : Int), (0 : Int), (0 : Int), ([] : List Int), ()))
  else (some ((some ((p1.1.1, p1.1.2.1, p1.1.2.2.1, p1.1.2.2.2.1, p1.1.2.2.2.2.1, p1.1.2.2.2.2.2.1, p1.1.2.2.2.2.2.2), p1.2.1, (IntKind.i64.wrap (p1.2.2.1 + (1 : Int))), a1, p1.2.2.2.2)), (p1.1.1, p1.1.2.1, p1.1.2.2.1, p1.1.2.2.2.1, p1.1.2.2.2.2.1, p1.1.2.2.2.2.2.1, p1.1.2.2.2.2.2.2), true, ())))
theorem rpc_Caller_Tick.w (n : Nat) (a0 : Option DCaller) (a1 : Int) (X1 : XC) : evFn (rpc_Caller_Tick.d n X1) rpc_Caller_Tick.rs rpc_Caller_Tick.ps rpc_Caller_Tick.r (a0, a1, ()) =
  (optM a0 (ev X1 [(0, some ⟨.opt TCaller, (none : Option DCaller)⟩), (4, some ⟨.box TPacket, (((0 : Int), (0 : Int), (0 : Int), (0 : Int), (0 : Int), ([] : List Int), ()) : DPacket)⟩)] (⟨retK rpc_Caller_Tick.rs rpc_Caller_Tick.ps rpc_Caller_Tick.r, [(1000000, (fun _ => none))]⟩ : Ks rpc_Caller_Tick.R) (retK rpc_Caller_Tick.rs rpc_Caller_Tick.ps rpc_Caller_Tick.r)) fun p1 => (some (!p1.2.1)).bind fun g2 =>
  bif g2 then (ev X1 [(0, some ⟨.opt TCaller, ((some ((p1.1.1, p1.1.2.1, p1.1.2.2.1, p1.1.2.2.2.1, p1.1.2.2.2.2.1, p1.1.2.2.2.2.2.1, p1.1.2.2.2.2.2.2), p1.2.1, p1.2.2.1, p1.2.2.2.1, p1.2.2.2.2)) : Option DCaller)⟩), (4, some ⟨.box TPacket, (((0 : Int), (0 : Int), (0 : Int), (0 : Int), (0 : Int), ([] : List Int), ()) : DPacket)⟩)] (⟨retK rpc_Caller_Tick.rs rpc_Caller_Tick.ps rpc_Caller_Tick.r, [(1000000, (fun _ => none))]⟩ : Ks rpc_Caller_Tick.R) (retK rpc_Caller_Tick.rs rpc_Caller_Tick.ps rpc_Caller_Tick.r))
  else ((bif (decide ((0 : Int) < p1.2.2.1)) then ((bif (decide (a1 < p1.2.2.2.1)) then some true else (some (decide ((IntKind.u64.wrap (a1 - p1.2.2.2.1)) < (4 : Int))))).bind fun g4 =>
  some g4) else some false).bind fun g3 =>
  bif g3 then (ev X1 [(0, some ⟨.opt TCaller, ((some ((p1.1.1, p1.1.2.1, p1.1.2.2.1, p1.1.2.2.2.1, p1.1.2.2.2.2.1, p1.1.2.2.2.2.2.1, p1.1.2.2.2.2.2.2), p1.2.1, p1.2.2.1, p1.2.2.2.1, p1.2.2.2.2)) : Option DCaller)⟩), (4, some ⟨.box TPacket, (((0 : Int), (0 : Int), (0 : Int), (0 : Int), (0 : Int), ([] : List Int), ()) : DPacket)⟩)] (⟨retK rpc_Caller_Tick.rs rpc_Caller_Tick.ps rpc_Caller_Tick.r, [(1000000, (fun _ => none))]⟩ : Ks rpc_Caller_Tick.R) (retK rpc_Caller_Tick.rs rpc_Caller_Tick.ps rpc_Caller_Tick.r))
  else (some ((some ((p1.1.1, p1.1.2.1, p1.1.2.2.1, p1.1.2.2.2.1, p1.1.2.2.2.2.1, p1.1.2.2.2.2.2.1, p1.1.2.2.2.2.2.2), p1.2.1, (IntKind.i64.wrap (p1.2.2.1 + (1 : Int))), a1, p1.2.2.2.2)), (p1.1.1, p1.1.2.1, p1.1.2.2.1, p1.1.2.2.2.1, p1.1.2.2.2.2.1, p1.1.2.2.2.2.2.1, p1.1.2.2.2.2.2.2), true, ()))) : Option rpc_Caller_Tick.R) := by kernel_rfl
theorem rpc_Caller_Tick.ok (n : Nat) (a0 : Option DCaller) (a1 : Int) : evFn (rpc_Caller_Tick.c n) rpc_Caller_Tick.rs rpc_Caller_Tick.ps rpc_Caller_Tick.r (a0, a1, ()) = rpc_Caller_Tick.f n a0 a1 := (rpc_Caller_Tick.w n a0 a1 (rpc_Caller_Tick.c1 n)).trans (by simp only [rpc_Caller_Tick.f, rpc_Caller_Tick.s1 n] <;> kernel_rfl)
noncomputable def rpc_Caller_Tick.sp (n : Nat) : FSpec := { f := 16, ps := rpc_Caller_Tick.ps, r := rpc_Caller_Tick.r, run := fun x => rpc_Caller_Tick.f n x.1 x.2.1 }
theorem rpc_Caller_Tick.calls (n : Nat) : (rpc_Caller_Tick.c n).calls = [] := by kernel_rfl
theorem rpc_Caller_Tick.fits (n : Nat) : fnB tab hd Try.f16 (rpc_Caller_Tick.c n) rpc_Caller_Tick.rs (rpc_Caller_Tick.sp n).ps (rpc_Caller_Tick.sp n).r = true := by kernel_rfl
theorem rpc_Caller_Tick.sound (n : Nat) : Sound Try.prog (rpc_Caller_Tick.sp n) := by
  refine fnB_sound tabOk eqFacts mixed (fn := Try.f16) (c := rpc_Caller_Tick.c n) (rs := rpc_Caller_Tick.rs) (by kernel_rfl) ?_ (rpc_Caller_Tick.fits n) ?_
  · rw [rpc_Caller_Tick.calls]
    intro s hs; cases hs
  · rintro ⟨a0, a1, ⟨⟩⟩ y h
    exact (rpc_Caller_Tick.ok n a0 a1).trans h
/-! (*backwater/rpc.Callee).Reply -/
abbrev rpc_Callee_Reply.ps : List (Ty × Bool) := [(.opt TCallee, true), (.int .u8, false), (.str, false)]
abbrev rpc_Callee_Reply.r : Ty := .tup (.pair TPacket (.pair (.int .i64) .unit))
abbrev rpc_Callee_Reply.rs : List RV := [.c 6 6 true, .t 7]
abbrev rpc_Callee_Reply.R : Type := (rtOf rpc_Callee_Reply.ps rpc_Callee_Reply.r).den
noncomputable def rpc_Callee_Reply.d (n : Nat) : XC :=
  (.seq (.reg (.op (.alloc 6 ⟨TPacket, (((0 : Int), (0 : Int), (0 : Int), (0 : Int), (0 : Int), ([] : List Int), ()) : DPacket)⟩) none <| .op (.mv 7 (.c ⟨.int .i64, ((0 : Int) : Int)⟩)) none <| .nil)) <|
  (.seq (.seq (.pre [.split 0 []] (.reg (.op (.bor 9 0) none <| .op (.eqnil 10 (.t 9) false false) none <| .nil))) <|
  (.cond (.t 10)
  (.seq (.reg (.op (.build 11 ⟨TPacket, (((0 : Int), (0 : Int), (0 : Int), (0 : Int), (0 : Int), ([] : List Int), ()) : DPacket)⟩ []) none <| .op (.st 6 (.t 11) 6) none <| .op (.mv 7 (.c ⟨.int .i64, ((1 : Int) : Int)⟩)) none <| .nil)) <|
  .ret)
  .skip)) <|
  (.seq (.seq (.reg (.op (.mv 12 (.t 1)) none <| .op (.bin 13 .eql (.t 12) (.c ⟨.int .u8, ((0 : Int) : Int)⟩)) none <| .op (.mv 14 (.t 13)) none <| .grp 14 false (.op (.mv 15 (.t 1)) (some ([1, 14, 15], [15])) <| .op (.bin 16 .gtr (.t 15) (.c ⟨.int .u8, ((3 : Int) : Int)⟩)) (some ([14, 15, 16], [16])) <| .nil) 16 17 [15, 16] <| .nil)) <|
  (.cond (.t 17)
  (.seq (.reg (.op (.build 18 ⟨TPacket, (((0 : Int), (0 : Int), (0 : Int), (0 : Int), (0 : Int), ([] : List Int), ()) : DPacket)⟩ []) none <| .op (.st 6 (.t 18) 6) none <| .op (.mv 7 (.c ⟨.int .i64, ((2 : Int) : Int)⟩)) none <| .nil)) <|
  .ret)
  .skip)) <|
  (.seq (.reg (.op (.bor 19 0) none <| .op (.mv 20 (.t 1)) none <| .op (.bin 21 .sub (.t 20) (.c ⟨.int .u8, ((1 : Int) : Int)⟩)) none <| .op (.nilchk 22 (.t 19)) none <| .op (.fa 23 22 0 0) none <| .op (.idxA 24 (.t 23) (.t 21) 4 3) none <| .op (.bor 8 24) none <| .nil)) <|
  (.seq (.seq (.pre [.keep [0, 1, 2, 6, 8]] (.reg (.op (.bor 25 8) none <| .op (.nilchk 26 (.t 25)) none <| .op (.fa 27 26 0 0) none <| .op (.ld 28 27 1 false) none <| .op (.bin 29 .neq (.t 28) (.c ⟨.int .u8, ((1 : Int) : Int)⟩)) none <| .nil))) <|
  (.cond (.t 29)
  (.seq (.reg (.op (.build 30 ⟨TPacket, (((0 : Int), (0 : Int), (0 : Int), (0 : Int), (0 : Int), ([] : List Int), ()) : DPacket)⟩ []) none <| .op (.st 6 (.t 30) 6) none <| .op (.mv 7 (.c ⟨.int .i64, ((5 : Int) : Int)⟩)) none <| .nil)) <|
  .ret)
  .skip)) <|
  (.seq (.seq (.reg (.op (.mv 31 (.t 2)) none <| .op (.len 32 (.t 31) true) none <| .op (.bin 33 .gtr (.t 32) (.c ⟨.int .i64, ((16384 : Int) : Int)⟩)) none <| .nil)) <|
  (.cond (.t 33)
  (.seq (.pre [.keep [0, 6]] (.reg (.op (.build 34 ⟨TPacket, (((0 : Int), (0 : Int), (0 : Int), (0 : Int), (0 : Int), ([] : List Int), ()) : DPacket)⟩ []) none <| .op (.st 6 (.t 34) 6) none <| .op (.mv 7 (.c ⟨.int .i64, ((3 : Int) : Int)⟩)) none <| .nil))) <|
  .ret)
  .skip)) <|
  (.seq (.reg (.op (.bor 35 8) none <| .op (.bor 36 8) none <| .op (.mv 37 (.t 2)) none <| .op (.nilchk 38 (.t 35)) none <| .op (.fa 39 38 0 0) none <| .op (.st 39 (.c ⟨.int .u8, ((2 : Int) : Int)⟩) 1) none <| .op (.nilchk 40 (.t 36)) none <| .op (.fa 41 40 3 3) none <| .op (.st 41 (.t 37) 1) none <| .nil)) <|
  (.seq (.pre [.keep [0, 1, 6, 8]] (.reg (.op (.bor 42 8) none <| .op (.nilchk 43 (.t 42)) none <| .op (.ld 44 43 4 true) none <| .op (.mv 45 (.t 1)) none <| .op (.call (some 46) (rpc_past_answer.sp n) [.v (.t 44), .v (.t 45)]) none <| .op (.st 6 (.t 46) 6) none <| .op (.mv 7 (.c ⟨.int .i64, ((0 : Int) : Int)⟩)) none <| .nil))) <|
  .ret))))))))
noncomputable abbrev rpc_Callee_Reply.c (n : Nat) : XC := rpc_Callee_Reply.d n
noncomputable def rpc_Callee_Reply.f (n : Nat) (a0 : Option DCallee) (a1 : Int) (a2 : List Int) : Option ((Option DCallee) × (DPacket × Int × Unit)) :=
  optM a0 (some (none, ((0 : Int), (0 : Int), (0 : Int), (0 : Int), (0 : Int), ([] : List Int), ()), (1 : Int), ())) fun p1 => (bif (decide (a1 = (0 : Int))) then some true else (some (decide ((3 : Int) < a1)))).bind fun g2 =>
  bif g2 then (some ((some (p1.1, p1.2)), ((0 : Int), (0 : Int), (0 : Int), (0 : Int), (0 : Int), ([] : List Int), ()), (2 : Int), ()))
  else (inK' (IntKind.u8.wrap (a1 - (1 : Int))) 3 ((lnth p1.1 (IntKind.u8.wrap (a1 - (1 : Int)))).bind fun e3 => bif (!decide (e3.1 = (1 : Int))) then (some ((some (p1.1, p1.2)), ((0 : Int), (0 : Int), (0 : Int), (0 : Int), (0 : Int), ([] : List Int), ()), (5 : Int), ()))
  else (bif (decide ((16384 : Int) < (a2.length : Int))) then (some ((some (p1.1, p1.2)), ((0 : Int), (0 : Int), (0 : Int), (0 : Int), (0 : Int), ([] : List Int), ()), (3 : Int), ()))
  else ((lnth p1.1 (IntKind.u8.wrap (a1 - (1 : Int)))).bind fun e4 => (lnth (lset p1.1 (IntKind.u8.wrap (a1 - (1 : Int))) ((2 : Int), e4.2)) (IntKind.u8.wrap (a1 - (1 : Int)))).bind fun e5 => (lnth (lset (lset p1.1 (IntKind.u8.wrap (a1 - (1 : Int))) ((2 : Int), e4.2)) (IntKind.u8.wrap (a1 - (1 : Int))) (e5.1, e5.2.1, e5.2.2.1, a2, e5.2.2.2.2)) (IntKind.u8.wrap (a1 - (1 : Int)))).bind fun e6 => (rpc_past_answer.f n (e6.1, e6.2.1, e6.2.2.1, e6.2.2.2.1, e6.2.2.2.2) a1).bind fun r7 => some ((some ((lset (lset p1.1 (IntKind.u8.wrap (a1 - (1 : Int))) ((2 : Int), e4.2)) (IntKind.u8.wrap (a1 - (1 : Int))) (e5.1, e5.2.1, e5.2.2.1, a2, e5.2.2.2.2)), p1.2)), (r7.1, r7.2.1, r7.2.2.1, r7.2.2.2.1, r7.2.2.2.2.1, r7.2.2.2.2.2.1, r7.2.2.2.2.2.2), (0 : Int), ())))))
theorem rpc_Callee_Reply.ok (n : Nat) (a0 : Option DCallee) (a1 : Int) (a2 : List Int) : evFn (rpc_Callee_Reply.c n) rpc_Callee_Reply.rs rpc_Callee_Reply.ps rpc_Callee_Reply.r (a0, a1, a2, ()) = rpc_Callee_Reply.f n a0 a1 a2 := by kernel_rfl
noncomputable def rpc_Callee_Reply.sp (n : Nat) : FSpec := { f := 20, ps := rpc_Callee_Reply.ps, r := rpc_Callee_Reply.r, run := fun x => rpc_Callee_Reply.f n x.1 x.2.1 x.2.2.1 }
theorem rpc_Callee_Reply.calls (n : Nat) : (rpc_Callee_Reply.c n).calls = [rpc_past_answer.sp n] := by kernel_rfl
theorem rpc_Callee_Reply.fits (n : Nat) : fnB tab hd Try.f20 (rpc_Callee_Reply.c n) rpc_Callee_Reply.rs (rpc_Callee_Reply.sp n).ps (rpc_Callee_Reply.sp n).r = true := by kernel_rfl
theorem rpc_Callee_Reply.sound (n : Nat) : Sound Try.prog (rpc_Callee_Reply.sp n) := by
  refine fnB_sound tabOk eqFacts mixed (fn := Try.f20) (c := rpc_Callee_Reply.c n) (rs := rpc_Callee_Reply.rs) (by kernel_rfl) ?_ (rpc_Callee_Reply.fits n) ?_
  · rw [rpc_Callee_Reply.calls]
    intro s hs
    simp only [List.mem_cons, List.not_mem_nil, or_false] at hs
    rcases hs with rfl
    · exact rpc_past_answer.sound n
  · rintro ⟨a0, a1, a2, ⟨⟩⟩ y h
    exact (rpc_Callee_Reply.ok n a0 a1 a2).trans h
/-! (*backwater/rpc.Caller).Busy -/
abbrev rpc_Caller_Busy.ps : List (Ty × Bool) := [(.oref TCaller, false)]
abbrev rpc_Caller_Busy.r : Ty := .bool
abbrev rpc_Caller_Busy.rs : List RV := [.t 2]
abbrev rpc_Caller_Busy.R : Type := (rtOf rpc_Caller_Busy.ps rpc_Caller_Busy.r).den
noncomputable def rpc_Caller_Busy.d (n : Nat) : XC :=
  (.seq (.reg (.op (.mv 2 (.c ⟨.bool, (false : Bool)⟩)) none <| .nil)) <|
  (.seq (.reg (.op (.mv 3 (.t 0)) none <| .op (.eqnil 4 (.t 3) true false) none <| .op (.mv 5 (.t 4)) none <| .grp 5 true (.op (.mv 6 (.t 0)) (some ([0, 5, 6], [6])) <| .op (.nilchk 7 (.t 6)) (some ([5, 6, 7], [7])) <| .op (.fa 8 7 1 6) (some ([5, 7, 8], [8])) <| .op (.ld 9 8 1 false) (some ([5, 8, 9], [9])) <| .nil) 9 10 [6, 7, 8, 9] <| .op (.mv 2 (.t 10)) none <| .nil)) <|
  .ret))
noncomputable abbrev rpc_Caller_Busy.c (n : Nat) : XC := rpc_Caller_Busy.d n
noncomputable def rpc_Caller_Busy.f (n : Nat) (a0 : Option DCaller) : Option Bool :=
  (bif (Option.isSome a0) then (optM a0 none fun p2 => some p2.2.1) else some false).bind fun g1 =>
  some g1
theorem rpc_Caller_Busy.ok (n : Nat) (a0 : Option DCaller) : evFn (rpc_Caller_Busy.c n) rpc_Caller_Busy.rs rpc_Caller_Busy.ps rpc_Caller_Busy.r (a0, ()) = rpc_Caller_Busy.f n a0 := by kernel_rfl
noncomputable def rpc_Caller_Busy.sp (n : Nat) : FSpec := { f := 18, ps := rpc_Caller_Busy.ps, r := rpc_Caller_Busy.r, run := fun x => rpc_Caller_Busy.f n x.1 }
theorem rpc_Caller_Busy.calls (n : Nat) : (rpc_Caller_Busy.c n).calls = [] := by kernel_rfl
theorem rpc_Caller_Busy.fits (n : Nat) : fnB tab hd Try.f18 (rpc_Caller_Busy.c n) rpc_Caller_Busy.rs (rpc_Caller_Busy.sp n).ps (rpc_Caller_Busy.sp n).r = true := by kernel_rfl
theorem rpc_Caller_Busy.sound (n : Nat) : Sound Try.prog (rpc_Caller_Busy.sp n) := by
  refine fnB_sound tabOk eqFacts mixed (fn := Try.f18) (c := rpc_Caller_Busy.c n) (rs := rpc_Caller_Busy.rs) (by kernel_rfl) ?_ (rpc_Caller_Busy.fits n) ?_
  · rw [rpc_Caller_Busy.calls]
    intro s hs; cases hs
  · rintro ⟨a0, ⟨⟩⟩ y h
    exact (rpc_Caller_Busy.ok n a0).trans h
/-! (*backwater/rpc.Caller).Take -/
abbrev rpc_Caller_Take.ps : List (Ty × Bool) := [(.opt TCaller, true), (TPacket, false)]
abbrev rpc_Caller_Take.r : Ty := .tup (.pair .str (.pair .bool .unit))
abbrev rpc_Caller_Take.rs : List RV := [.t 4, .t 5]
abbrev rpc_Caller_Take.R : Type := (rtOf rpc_Caller_Take.ps rpc_Caller_Take.r).den
noncomputable def rpc_Caller_Take.d1 (n : Nat) : XC :=
  (.seq (.pre [.split 0 []] (.regD (.op (.bor 15 0) (some ([0, 15], [15])) <| .op (.nilchk 16 (.t 15)) (some ([0, 15, 16], [16])) <| .op (.fa 17 16 0 0) (some ([0, 16, 17], [17])) <| .op (.fa 18 17 1 1) (some ([0, 17, 18], [18])) <| .op (.ld 19 18 1 false) (some ([0, 18, 19], [19])) <| .op (.bor 20 0) (some ([0, 20], [20])) <| .op (.nilchk 21 (.t 20)) (some ([0, 20, 21], [21])) <| .op (.fa 22 21 0 0) (some ([0, 21, 22], [22])) <| .op (.fa 23 22 3 3) (some ([0, 22, 23], [23])) <| .op (.ld 24 23 1 false) (some ([0, 23, 24], [24])) <| .op (.bor 25 0) (some ([0, 25], [25])) <| .op (.nilchk 26 (.t 25)) (some ([0, 25, 26], [26])) <| .op (.fa 27 26 0 0) (some ([0, 26, 27], [27])) <| .op (.fa 28 27 4 4) (some ([0, 27, 28], [28])) <| .op (.ld 29 28 1 false) (some ([0, 28, 29], [29])) <| .op (.fa 30 3 5 5) (some ([3, 30], [30])) <| .op (.ld 31 30 1 false) (some ([3, 30, 31], [31])) <| .op (.build 32 ⟨TPacket, (((0 : Int), (0 : Int), (0 : Int), (0 : Int), (0 : Int), ([] : List Int), ()) : DPacket)⟩ [(0, (.c ⟨.int .u8, ((2 : Int) : Int)⟩), false), (2, (.t 19), false), (3, (.t 24), false), (4, (.t 29), false), (5, (.t 31), false)]) (some ([19, 24, 29, 31, 32], [32])) <| .op (.alloc 6 ⟨TPacket, (((0 : Int), (0 : Int), (0 : Int), (0 : Int), (0 : Int), ([] : List Int), ()) : DPacket)⟩) (some ([6], [6])) <| .op (.st 6 (.t 32) 6) (some ([6, 32], [6])) <| .nil))) <|
  (.seq (.seq (.pre [.keep [0, 3, 6]] (.reg (.op (.ld 33 3 6 true) none <| .op (.ld 34 6 6 true) none <| .op (.eqs 35 true (.t 33) (.t 34) TPacket) none <| .nil))) <|
  (.cond (.t 35)
  (.seq (.reg (.op (.mv 4 (.c ⟨.str, (([] : List Int) : List Int)⟩)) none <| .op (.mv 5 (.c ⟨.bool, (false : Bool)⟩)) none <| .nil)) <|
  .ret)
  .skip)) <|
  (.seq (.reg (.op (.bor 36 0) none <| .op (.nilchk 37 (.t 36)) none <| .op (.fa 38 37 1 6) none <| .op (.st 38 (.c ⟨.bool, (false : Bool)⟩) 1) none <| .nil)) <|
  (.seq (.reg (.op (.fa 39 3 5 5) none <| .op (.ld 40 39 1 false) none <| .op (.mv 4 (.t 40)) none <| .op (.mv 5 (.c ⟨.bool, (true : Bool)⟩)) none <| .nil)) <|
  .ret))))
noncomputable abbrev rpc_Caller_Take.c1 (n : Nat) : XC := rpc_Caller_Take.d1 n
noncomputable def rpc_Caller_Take.j1 (n : Nat) (x0 : Option DCaller) (x3 : DPacket) : Option ((Option DCaller) × ((List Int) × Bool × Unit)) :=
  optM x0 (none) fun p1 => bif (!(eqI x3.1 (2 : Int) && (eqI x3.2.1 (0 : Int) && (eqI x3.2.2.1 p1.1.2.1 && (eqI x3.2.2.2.1 p1.1.2.2.2.1 && (eqI x3.2.2.2.2.1 p1.1.2.2.2.2.1 && (eqS x3.2.2.2.2.2.1 x3.2.2.2.2.2.1 && true))))))) then (some ((some ((p1.1.1, p1.1.2.1, p1.1.2.2.1, p1.1.2.2.2.1, p1.1.2.2.2.2.1, p1.1.2.2.2.2.2.1, p1.1.2.2.2.2.2.2), p1.2.1, p1.2.2.1, p1.2.2.2.1, p1.2.2.2.2)), ([] : List Int), false, ()))
  else (some ((some ((p1.1.1, p1.1.2.1, p1.1.2.2.1, p1.1.2.2.2.1, p1.1.2.2.2.2.1, p1.1.2.2.2.2.2.1, p1.1.2.2.2.2.2.2), false, p1.2.2.1, p1.2.2.2.1, p1.2.2.2.2)), x3.2.2.2.2.2.1, true, ()))
theorem rpc_Caller_Take.s1 (n : Nat) (x0 : Option DCaller) (x3 : DPacket) : ev (rpc_Caller_Take.c1 n) [(0, some ⟨.opt TCaller, x0⟩), (3, some ⟨.box TPacket, x3⟩)] (⟨retK rpc_Caller_Take.rs rpc_Caller_Take.ps rpc_Caller_Take.r, []⟩ : Ks rpc_Caller_Take.R) (retK rpc_Caller_Take.rs rpc_Caller_Take.ps rpc_Caller_Take.r) = rpc_Caller_Take.j1 n x0 x3 := by kernel_rfl
noncomputable def rpc_Caller_Take.H1 (n : Nat) (X : XC) : St → Option rpc_Caller_Take.R := fun st => ghK [.coe 0 (.opt TCaller), .keep [0, 3]] st fun st => ev X st (⟨retK rpc_Caller_Take.rs rpc_Caller_Take.ps rpc_Caller_Take.r, []⟩ : Ks rpc_Caller_Take.R) (retK rpc_Caller_Take.rs rpc_Caller_Take.ps rpc_Caller_Take.r)
noncomputable abbrev rpc_Caller_Take.K1 (n : Nat) : St → Option rpc_Caller_Take.R := rpc_Caller_Take.H1 n (rpc_Caller_Take.c1 n)
noncomputable def rpc_Caller_Take.d (n : Nat) (X1 : XC) : XC :=
  (.seq (.reg (.op (.boxv 3 (.t 1)) none <| .op (.mv 4 (.c ⟨.str, (([] : List Int) : List Int)⟩)) none <| .op (.mv 5 (.c ⟨.bool, (false : Bool)⟩)) none <| .nil)) <|
  (.seq (.aft (.seq (.pre [.split 0 []] (.reg (.op (.bor 7 0) none <| .op (.call (some 8) (rpc_Caller_Busy.sp n) [.r 7]) none <| .op (.un 9 .not (.t 8)) none <| .op (.mv 10 (.t 9)) none <| .grp 10 false (.op (.ld 11 3 6 true) (some ([3, 10, 11], [11])) <| .op (.call (some 12) (frame_Right.sp n) [.v (.t 11)]) (some ([10, 11, 12], [12])) <| .op (.un 13 .not (.t 12)) (some ([10, 12, 13], [13])) <| .nil) 13 14 [11, 12, 13] <| .nil))) <|
  (.cond (.t 14)
  (.seq (.reg (.op (.mv 4 (.c ⟨.str, (([] : List Int) : List Int)⟩)) none <| .op (.mv 5 (.c ⟨.bool, (false : Bool)⟩)) none <| .nil)) <|
  .ret)
  .skip)) [.coe 0 (.opt TCaller), .keep [0, 3]]) X1))
noncomputable abbrev rpc_Caller_Take.c (n : Nat) : XC := rpc_Caller_Take.d n (rpc_Caller_Take.c1 n)
noncomputable def rpc_Caller_Take.f (n : Nat) (a0 : Option DCaller) (a1 : DPacket) : Option ((Option DCaller) × ((List Int) × Bool × Unit)) :=
  optM a0 ((rpc_Caller_Busy.f n none).bind fun r2 => (bif (!r2) then some true else ((frame_Right.f n (a1.1, a1.2.1, a1.2.2.1, a1.2.2.2.1, a1.2.2.2.2.1, a1.2.2.2.2.2.1, a1.2.2.2.2.2.2)).bind fun r4 => some (!r4))).bind fun g3 =>
  bif g3 then (some (none, ([] : List Int), false, ()))
  else (rpc_Caller_Take.j1 n none (a1.1, a1.2.1, a1.2.2.1, a1.2.2.2.1, a1.2.2.2.2.1, a1.2.2.2.2.2.1, a1.2.2.2.2.2.2))) fun p1 => (rpc_Caller_Busy.f n (some ((p1.1.1, p1.1.2.1, p1.1.2.2.1, p1.1.2.2.2.1, p1.1.2.2.2.2.1, p1.1.2.2.2.2.2.1, p1.1.2.2.2.2.2.2), p1.2.1, p1.2.2.1, p1.2.2.2.1, p1.2.2.2.2))).bind fun r5 => (bif (!r5) then some true else ((frame_Right.f n (a1.1, a1.2.1, a1.2.2.1, a1.2.2.2.1, a1.2.2.2.2.1, a1.2.2.2.2.2.1, a1.2.2.2.2.2.2)).bind fun r7 => some (!r7))).bind fun g6 =>
  bif g6 then (some ((some ((p1.1.1, p1.1.2.1, p1.1.2.2.1, p1.1.2.2.2.1, p1.1.2.2.2.2.1, p1.1.2.2.2.2.2.1, p1.1.2.2.2.2.2.2), p1.2.1, p1.2.2.1, p1.2.2.2.1, p1.2.2.2.2)), ([] : List Int), false, ()))
  else (rpc_Caller_Take.j1 n (some ((p1.1.1, p1.1.2.1, p1.1.2.2.1, p1.1.2.2.2.1, p1.1.2.2.2.2.1, p1.1.2.2.2.2.2.1, p1.1.2.2.2.2.2.2), p1.2.1, p1.2.2.1, p1.2.2.2.1, p1.2.2.2.2)) (a1.1, a1.2.1, a1.2.2.1, a1.2.2.2.1, a1.2.2.2.2.1, a1.2.2.2.2.2.1, a1.2.2.2.2.2.2))
theorem rpc_Caller_Take.w (n : Nat) (a0 : Option DCaller) (a1 : DPacket) (X1 : XC) : evFn (rpc_Caller_Take.d n X1) rpc_Caller_Take.rs rpc_Caller_Take.ps rpc_Caller_Take.r (a0, a1, ()) =
  (optM a0 ((rpc_Caller_Busy.f n none).bind fun r2 => (bif (!r2) then some true else ((frame_Right.f n (a1.1, a1.2.1, a1.2.2.1, a1.2.2.2.1, a1.2.2.2.2.1, a1.2.2.2.2.2.1, a1.2.2.2.2.2.2)).bind fun r4 => some (!r4))).bind fun g3 =>
  bif g3 then (some (none, ([] : List Int), false, ()))
  else (ev X1 [(0, some ⟨.opt TCaller, (none : Option DCaller)⟩), (3, some ⟨.box TPacket, ((a1.1, a1.2.1, a1.2.2.1, a1.2.2.2.1, a1.2.2.2.2.1, a1.2.2.2.2.2.1, a1.2.2.2.2.2.2) : DPacket)⟩)] (⟨retK rpc_Caller_Take.rs rpc_Caller_Take.ps rpc_Caller_Take.r, []⟩ : Ks rpc_Caller_Take.R) (retK rpc_Caller_Take.rs rpc_Caller_Take.ps rpc_Caller_Take.r))) fun p1 => (rpc_Caller_Busy.f n (some ((p1.1.1, p1.1.2.1, p1.1.2.2.1, p1.1.2.2.2.1, p1.1.2.2.2.2.1, p1.1.2.2.2.2.2.1, p1.1.2.2.2.2.2.2), p1.2.1, p1.2.2.1, p1.2.2.2.1, p1.2.2.2.2))).bind fun r5 => (bif (!r5) then some true else ((frame_Right.f n (a1.1, a1.2.1, a1.2.2.1, a1.2.2.2.1, a1.2.2.2.2.1, a1.2.2.2.2.2.1, a1.2.2.2.2.2.2)).bind fun r7 => some (!r7))).bind fun g6 =>
  bif g6 then (some ((some ((p1.1.1, p1.1.2.1, p1.1.2.2.1, p1.1.2.2.2.1, p1.1.2.2.2.2.1, p1.1.2.2.2.2.2.1, p1.1.2.2.2.2.2.2), p1.2.1, p1.2.2.1, p1.2.2.2.1, p1.2.2.2.2)), ([] : List Int), false, ()))
  else (ev X1 [(0, some ⟨.opt TCaller, ((some ((p1.1.1, p1.1.2.1, p1.1.2.2.1, p1.1.2.2.2.1, p1.1.2.2.2.2.1, p1.1.2.2.2.2.2.1, p1.1.2.2.2.2.2.2), p1.2.1, p1.2.2.1, p1.2.2.2.1, p1.2.2.2.2)) : Option DCaller)⟩), (3, some ⟨.box TPacket, ((a1.1, a1.2.1, a1.2.2.1, a1.2.2.2.1, a1.2.2.2.2.1, a1.2.2.2.2.2.1, a1.2.2.2.2.2.2) : DPacket)⟩)] (⟨retK rpc_Caller_Take.rs rpc_Caller_Take.ps rpc_Caller_Take.r, []⟩ : Ks rpc_Caller_Take.R) (retK rpc_Caller_Take.rs rpc_Caller_Take.ps rpc_Caller_Take.r)) : Option rpc_Caller_Take.R) := by kernel_rfl
theorem rpc_Caller_Take.ok (n : Nat) (a0 : Option DCaller) (a1 : DPacket) : evFn (rpc_Caller_Take.c n) rpc_Caller_Take.rs rpc_Caller_Take.ps rpc_Caller_Take.r (a0, a1, ()) = rpc_Caller_Take.f n a0 a1 := (rpc_Caller_Take.w n a0 a1 (rpc_Caller_Take.c1 n)).trans (by simp only [rpc_Caller_Take.f, rpc_Caller_Take.s1 n] <;> kernel_rfl)
noncomputable def rpc_Caller_Take.sp (n : Nat) : FSpec := { f := 22, ps := rpc_Caller_Take.ps, r := rpc_Caller_Take.r, run := fun x => rpc_Caller_Take.f n x.1 x.2.1 }
theorem rpc_Caller_Take.calls (n : Nat) : (rpc_Caller_Take.c n).calls = [rpc_Caller_Busy.sp n, frame_Right.sp n] := by kernel_rfl
theorem rpc_Caller_Take.fits (n : Nat) : fnB tab hd Try.f22 (rpc_Caller_Take.c n) rpc_Caller_Take.rs (rpc_Caller_Take.sp n).ps (rpc_Caller_Take.sp n).r = true := by kernel_rfl
theorem rpc_Caller_Take.sound (n : Nat) : Sound Try.prog (rpc_Caller_Take.sp n) := by
  refine fnB_sound tabOk eqFacts mixed (fn := Try.f22) (c := rpc_Caller_Take.c n) (rs := rpc_Caller_Take.rs) (by kernel_rfl) ?_ (rpc_Caller_Take.fits n) ?_
  · rw [rpc_Caller_Take.calls]
    intro s hs
    simp only [List.mem_cons, List.not_mem_nil, or_false] at hs
    rcases hs with rfl | rfl
    · exact rpc_Caller_Busy.sound n
    · exact frame_Right.sound n
  · rintro ⟨a0, a1, ⟨⟩⟩ y h
    exact (rpc_Caller_Take.ok n a0 a1).trans h
/-! backwater/backwaterlaw11.live -/
abbrev law11_live.ps : List (Ty × Bool) := []
abbrev law11_live.r : Ty := .bool
abbrev law11_live.rs : List RV := [.t 0]
abbrev law11_live.R : Type := (rtOf law11_live.ps law11_live.r).den
noncomputable def law11_live.d (n : Nat) : XC :=
  (.seq (.reg (.op (.mv 0 (.c ⟨.bool, (false : Bool)⟩)) none <| .nil)) <|
  (.seq (.reg (.op (.call (some 14) (rpc_NewCaller.sp n) [.v (.c ⟨.int .u8, ((1 : Int) : Int)⟩), .v (.c ⟨.int .u32, ((7 : Int) : Int)⟩)]) none <| .op (.call (some 15) (rpc_NewCallee.sp n) []) none <| .op (.take 1 14) none <| .op (.take 2 15) none <| .nil)) <|
  (.seq (.pre [.split 1 []] (.reg (.op (.bor 16 1) none <| .op (.call (some 17) (rpc_Caller_Call.sp n) [.l 16, .v (.c ⟨.str, (([120] : List Int) : List Int)⟩)]) none <| .op (.mv 3 (.t 17)) none <| .nil))) <|
  (.seq (.reg (.op (.bor 19 1) none <| .op (.call (some 20) (rpc_Caller_Tick.sp n) [.l 19, .v (.c ⟨.int .u64, ((0 : Int) : Int)⟩)]) none <| .op (.take 18 20) none <| .op (.ext 21 18 0) none <| .op (.ext 22 18 1) none <| .op (.alloc 4 ⟨TPacket, (((0 : Int), (0 : Int), (0 : Int), (0 : Int), (0 : Int), ([] : List Int), ()) : DPacket)⟩) none <| .op (.st 4 (.t 21) 6) none <| .op (.mv 5 (.t 22)) none <| .nil)) <|
  (.seq (.reg (.op (.bor 24 2) none <| .op (.ld 25 4 6 true) none <| .op (.call (some 26) (rpc_Callee_Take.sp n) [.l 24, .v (.t 25)]) none <| .op (.take 23 26) none <| .op (.ext 27 23 0) none <| .op (.ext 28 23 1) none <| .op (.ext 29 23 2) none <| .op (.ext 30 23 3) none <| .op (.alloc 8 ⟨TPacket, (((0 : Int), (0 : Int), (0 : Int), (0 : Int), (0 : Int), ([] : List Int), ()) : DPacket)⟩) none <| .op (.mv 6 (.t 27)) none <| .op (.mv 7 (.t 28)) none <| .op (.st 8 (.t 29) 6) none <| .op (.mv 9 (.t 30)) none <| .nil)) <|
  (.seq (.pre [.keep [1, 2, 3, 5, 6, 7]] (.reg (.op (.bor 32 2) none <| .op (.mv 33 (.t 6)) none <| .op (.bin 34 .add (.t 33) (.c ⟨.str, (([121] : List Int) : List Int)⟩)) none <| .op (.call (some 35) (rpc_Callee_Reply.sp n) [.l 32, .v (.c ⟨.int .u8, ((1 : Int) : Int)⟩), .v (.t 34)]) none <| .op (.take 31 35) none <| .op (.ext 36 31 0) none <| .op (.ext 37 31 1) none <| .op (.alloc 10 ⟨TPacket, (((0 : Int), (0 : Int), (0 : Int), (0 : Int), (0 : Int), ([] : List Int), ()) : DPacket)⟩) none <| .op (.st 10 (.t 36) 6) none <| .op (.mv 11 (.t 37)) none <| .nil))) <|
  (.seq (.reg (.op (.bor 39 1) none <| .op (.ld 40 10 6 true) none <| .op (.call (some 41) (rpc_Caller_Take.sp n) [.l 39, .v (.t 40)]) none <| .op (.take 38 41) none <| .op (.ext 42 38 0) none <| .op (.ext 43 38 1) none <| .op (.mv 12 (.t 42)) none <| .op (.mv 13 (.t 43)) none <| .nil)) <|
  (.seq (.pre [.keep [1, 3, 5, 6, 7, 11, 12, 13]] (.reg (.op (.mv 44 (.t 3)) none <| .op (.bin 45 .eql (.t 44) (.c ⟨.int .i64, ((0 : Int) : Int)⟩)) none <| .op (.mv 46 (.t 45)) none <| .grp 46 true (.op (.mv 47 (.t 5)) (some ([5, 46, 47], [47])) <| .nil) 47 48 [47] <| .op (.mv 49 (.t 48)) none <| .grp 49 true (.op (.mv 50 (.t 7)) (some ([7, 49, 50], [50])) <| .nil) 50 51 [50] <| .op (.mv 52 (.t 51)) none <| .grp 52 true (.op (.mv 53 (.t 6)) (some ([6, 52, 53], [53])) <| .op (.bin 54 .eql (.t 53) (.c ⟨.str, (([120] : List Int) : List Int)⟩)) (some ([52, 53, 54], [54])) <| .nil) 54 55 [53, 54] <| .op (.mv 56 (.t 55)) none <| .grp 56 true (.op (.mv 57 (.t 11)) (some ([11, 56, 57], [57])) <| .op (.bin 58 .eql (.t 57) (.c ⟨.int .i64, ((0 : Int) : Int)⟩)) (some ([56, 57, 58], [58])) <| .nil) 58 59 [57, 58] <| .op (.mv 60 (.t 59)) none <| .grp 60 true (.op (.mv 61 (.t 13)) (some ([13, 60, 61], [61])) <| .nil) 61 62 [61] <| .op (.mv 63 (.t 62)) none <| .grp 63 true (.op (.mv 64 (.t 12)) (some ([12, 63, 64], [64])) <| .op (.bin 65 .eql (.t 64) (.c ⟨.str, (([120, 121] : List Int) : List Int)⟩)) (some ([63, 64, 65], [65])) <| .nil) 65 66 [64, 65] <| .op (.mv 67 (.t 66)) none <| .grp 67 true (.op (.bor 68 1) (some ([1, 67, 68], [68])) <| .op (.call (some 69) (rpc_Caller_Busy.sp n) [.r 68]) (some ([1, 67, 68, 69], [69])) <| .op (.un 70 .not (.t 69)) (some ([67, 69, 70], [70])) <| .nil) 70 71 [68, 69, 70] <| .op (.mv 0 (.t 71)) none <| .nil))) <|
  .ret))))))))
noncomputable abbrev law11_live.c (n : Nat) : XC := law11_live.d n
noncomputable def law11_live.f (n : Nat)  : Option Bool :=
  (rpc_NewCaller.f n (1 : Int) (7 : Int)).bind fun r1 => (rpc_NewCallee.f n).bind fun r2 => optM r1 ((rpc_Caller_Call.f n none ([120] : List Int)).bind fun r4 => (rpc_Caller_Tick.f n none (0 : Int)).bind fun r5 => (rpc_Callee_Take.f n (some (r2.1, r2.2)) (r5.2.1.1, r5.2.1.2.1, r5.2.1.2.2.1, r5.2.1.2.2.2.1, r5.2.1.2.2.2.2.1, r5.2.1.2.2.2.2.2.1, r5.2.1.2.2.2.2.2.2)).bind fun r6 => (r6.1).bind fun p7 => leK (r6.2.1.length + ([121] : List Int).length) maxLen ((rpc_Callee_Reply.f n (some (p7.1, p7.2)) (1 : Int) (r6.2.1 ++ ([121] : List Int))).bind fun r8 => (r8.1).bind fun p9 => (rpc_Caller_Take.f n none (r8.2.1.1, r8.2.1.2.1, r8.2.1.2.2.1, r8.2.1.2.2.2.1, r8.2.1.2.2.2.2.1, r8.2.1.2.2.2.2.2.1, r8.2.1.2.2.2.2.2.2)).bind fun r10 => (bif (decide (r4.2 = (0 : Int))) then (some r5.2.2.1) else some false).bind fun g11 =>
  (bif g11 then (some r6.2.2.1) else some false).bind fun g12 =>
  (bif g12 then (some (decide (r6.2.1 = ([120] : List Int)))) else some false).bind fun g13 =>
  (bif g13 then (some (decide (r8.2.2.1 = (0 : Int)))) else some false).bind fun g14 =>
  (bif g14 then (some r10.2.2.1) else some false).bind fun g15 =>
  (bif g15 then (some (decide (r10.2.1 = ([120, 121] : List Int)))) else some false).bind fun g16 =>
  (bif g16 then ((rpc_Caller_Busy.f n none).bind fun r18 => some (!r18)) else some false).bind fun g17 =>
  some g17)) fun p3 => (rpc_Caller_Call.f n (some ((p3.1.1, p3.1.2.1, p3.1.2.2.1, p3.1.2.2.2.1, p3.1.2.2.2.2.1, p3.1.2.2.2.2.2.1, p3.1.2.2.2.2.2.2), p3.2.1, p3.2.2.1, p3.2.2.2.1, p3.2.2.2.2)) ([120] : List Int)).bind fun r19 => (r19.1).bind fun p20 => (rpc_Caller_Tick.f n (some ((p20.1.1, p20.1.2.1, p20.1.2.2.1, p20.1.2.2.2.1, p20.1.2.2.2.2.1, p20.1.2.2.2.2.2.1, p20.1.2.2.2.2.2.2), p20.2.1, p20.2.2.1, p20.2.2.2.1, p20.2.2.2.2)) (0 : Int)).bind fun r21 => (r21.1).bind fun p22 => (rpc_Callee_Take.f n (some (r2.1, r2.2)) (r21.2.1.1, r21.2.1.2.1, r21.2.1.2.2.1, r21.2.1.2.2.2.1, r21.2.1.2.2.2.2.1, r21.2.1.2.2.2.2.2.1, r21.2.1.2.2.2.2.2.2)).bind fun r23 => (r23.1).bind fun p24 => leK (r23.2.1.length + ([121] : List Int).length) maxLen ((rpc_Callee_Reply.f n (some (p24.1, p24.2)) (1 : Int) (r23.2.1 ++ ([121] : List Int))).bind fun r25 => (r25.1).bind fun p26 => (rpc_Caller_Take.f n (some ((p22.1.1, p22.1.2.1, p22.1.2.2.1, p22.1.2.2.2.1, p22.1.2.2.2.2.1, p22.1.2.2.2.2.2.1, p22.1.2.2.2.2.2.2), p22.2.1, p22.2.2.1, p22.2.2.2.1, p22.2.2.2.2)) (r25.2.1.1, r25.2.1.2.1, r25.2.1.2.2.1, r25.2.1.2.2.2.1, r25.2.1.2.2.2.2.1, r25.2.1.2.2.2.2.2.1, r25.2.1.2.2.2.2.2.2)).bind fun r27 => (r27.1).bind fun p28 => (bif (decide (r19.2 = (0 : Int))) then (some r21.2.2.1) else some false).bind fun g29 =>
  (bif g29 then (some r23.2.2.1) else some false).bind fun g30 =>
  (bif g30 then (some (decide (r23.2.1 = ([120] : List Int)))) else some false).bind fun g31 =>
  (bif g31 then (some (decide (r25.2.2.1 = (0 : Int)))) else some false).bind fun g32 =>
  (bif g32 then (some r27.2.2.1) else some false).bind fun g33 =>
  (bif g33 then (some (decide (r27.2.1 = ([120, 121] : List Int)))) else some false).bind fun g34 =>
  (bif g34 then ((rpc_Caller_Busy.f n (some ((p28.1.1, p28.1.2.1, p28.1.2.2.1, p28.1.2.2.2.1, p28.1.2.2.2.2.1, p28.1.2.2.2.2.2.1, p28.1.2.2.2.2.2.2), p28.2.1, p28.2.2.1, p28.2.2.2.1, p28.2.2.2.2))).bind fun r36 => some (!r36)) else some false).bind fun g35 =>
  some g35)
theorem law11_live.ok (n : Nat)  : evFn (law11_live.c n) law11_live.rs law11_live.ps law11_live.r () = law11_live.f n  := by kernel_rfl
noncomputable def law11_live.sp (n : Nat) : FSpec := { f := 13, ps := law11_live.ps, r := law11_live.r, run := fun x => law11_live.f n  }
theorem law11_live.calls (n : Nat) : (law11_live.c n).calls = [rpc_NewCaller.sp n, rpc_NewCallee.sp n, rpc_Caller_Call.sp n, rpc_Caller_Tick.sp n, rpc_Callee_Take.sp n, rpc_Callee_Reply.sp n, rpc_Caller_Take.sp n, rpc_Caller_Busy.sp n] := by kernel_rfl
theorem law11_live.fits (n : Nat) : fnB tab hd Try.f13 (law11_live.c n) law11_live.rs (law11_live.sp n).ps (law11_live.sp n).r = true := by kernel_rfl
theorem law11_live.sound (n : Nat) : Sound Try.prog (law11_live.sp n) := by
  refine fnB_sound tabOk eqFacts mixed (fn := Try.f13) (c := law11_live.c n) (rs := law11_live.rs) (by kernel_rfl) ?_ (law11_live.fits n) ?_
  · rw [law11_live.calls]
    intro s hs
    simp only [List.mem_cons, List.not_mem_nil, or_false] at hs
    rcases hs with rfl | rfl | rfl | rfl | rfl | rfl | rfl | rfl
    · exact rpc_NewCaller.sound n
    · exact rpc_NewCallee.sound n
    · exact rpc_Caller_Call.sound n
    · exact rpc_Caller_Tick.sound n
    · exact rpc_Callee_Take.sound n
    · exact rpc_Callee_Reply.sound n
    · exact rpc_Caller_Take.sound n
    · exact rpc_Caller_Busy.sound n
  · rintro ⟨⟩ y h
    exact (law11_live.ok n ).trans h
/-! backwater/backwaterlaw11.RpcOlder -/
abbrev law11_RpcOlder.ps : List (Ty × Bool) := [(.arr 2 (.int .u32), false), (.arr 2 (.int .u32), false)]
abbrev law11_RpcOlder.r : Ty := .bool
abbrev law11_RpcOlder.rs : List RV := [.t 4]
abbrev law11_RpcOlder.R : Type := (rtOf law11_RpcOlder.ps law11_RpcOlder.r).den
noncomputable def law11_RpcOlder.d (n : Nat) : XC :=
  (.seq (.reg (.op (.boxv 2 (.t 0)) none <| .op (.boxv 3 (.t 1)) none <| .op (.mv 4 (.c ⟨.bool, (false : Bool)⟩)) none <| .nil)) <|
  (.seq (.reg (.op (.call (some 17) (rpc_NewCallee.sp n) []) none <| .op (.take 5 17) none <| .nil)) <|
  (.seq (.reg (.op (.idxA 18 (.t 2) (.c ⟨.int .i64, ((0 : Int) : Int)⟩) 1 2) none <| .op (.ld 19 18 1 false) none <| .op (.idxA 20 (.t 3) (.c ⟨.int .i64, ((0 : Int) : Int)⟩) 1 2) none <| .op (.ld 21 20 1 false) none <| .op (.build 22 ⟨TPacket, (((0 : Int), (0 : Int), (0 : Int), (0 : Int), (0 : Int), ([] : List Int), ()) : DPacket)⟩ [(0, (.c ⟨.int .u8, ((1 : Int) : Int)⟩), false), (1, (.c ⟨.int .u8, ((1 : Int) : Int)⟩), false), (3, (.t 19), false), (4, (.t 21), false), (5, (.c ⟨.str, (([97] : List Int) : List Int)⟩), false)]) none <| .op (.alloc 6 ⟨TPacket, (((0 : Int), (0 : Int), (0 : Int), (0 : Int), (0 : Int), ([] : List Int), ()) : DPacket)⟩) none <| .op (.st 6 (.t 22) 6) none <| .nil)) <|
  (.seq (.reg (.op (.idxA 23 (.t 2) (.c ⟨.int .i64, ((1 : Int) : Int)⟩) 1 2) none <| .op (.ld 24 23 1 false) none <| .op (.idxA 25 (.t 3) (.c ⟨.int .i64, ((1 : Int) : Int)⟩) 1 2) none <| .op (.ld 26 25 1 false) none <| .op (.build 27 ⟨TPacket, (((0 : Int), (0 : Int), (0 : Int), (0 : Int), (0 : Int), ([] : List Int), ()) : DPacket)⟩ [(0, (.c ⟨.int .u8, ((1 : Int) : Int)⟩), false), (1, (.c ⟨.int .u8, ((1 : Int) : Int)⟩), false), (3, (.t 24), false), (4, (.t 26), false), (5, (.c ⟨.str, (([98] : List Int) : List Int)⟩), false)]) none <| .op (.alloc 7 ⟨TPacket, (((0 : Int), (0 : Int), (0 : Int), (0 : Int), (0 : Int), ([] : List Int), ()) : DPacket)⟩) none <| .op (.st 7 (.t 27) 6) none <| .nil)) <|
  (.seq (.pre [.keep [2, 3, 5, 6, 7]] (.reg (.op (.bor 29 5) none <| .op (.ld 30 6 6 true) none <| .op (.call (some 31) (rpc_Callee_Take.sp n) [.l 29, .v (.t 30)]) none <| .op (.take 28 31) none <| .op (.ext 32 28 0) none <| .op (.ext 33 28 1) none <| .op (.ext 34 28 2) none <| .op (.ext 35 28 3) none <| .op (.alloc 10 ⟨TPacket, (((0 : Int), (0 : Int), (0 : Int), (0 : Int), (0 : Int), ([] : List Int), ()) : DPacket)⟩) none <| .op (.mv 8 (.t 32)) none <| .op (.mv 9 (.t 33)) none <| .op (.st 10 (.t 34) 6) none <| .op (.mv 11 (.t 35)) none <| .nil))) <|
  (.seq (.seq (.pre [.keep [2, 3, 5, 7, 9]] (.reg (.op (.mv 36 (.t 9)) none <| .op (.idxA 37 (.t 3) (.c ⟨.int .i64, ((0 : Int) : Int)⟩) 1 2) none <| .op (.ld 38 37 1 false) none <| .op (.bin 39 .neq (.t 38) (.c ⟨.int .u32, ((0 : Int) : Int)⟩)) none <| .op (.eqs 40 true (.t 36) (.t 39) .bool) none <| .nil))) <|
  (.cond (.t 40)
  (.seq (.reg (.op (.mv 4 (.c ⟨.bool, (false : Bool)⟩)) none <| .nil)) <|
  .ret)
  .skip)) <|
  (.seq (.reg (.op (.bor 42 5) none <| .op (.ld 43 7 6 true) none <| .op (.call (some 44) (rpc_Callee_Take.sp n) [.l 42, .v (.t 43)]) none <| .op (.take 41 44) none <| .op (.ext 45 41 0) none <| .op (.ext 46 41 1) none <| .op (.ext 47 41 2) none <| .op (.ext 48 41 3) none <| .op (.alloc 14 ⟨TPacket, (((0 : Int), (0 : Int), (0 : Int), (0 : Int), (0 : Int), ([] : List Int), ()) : DPacket)⟩) none <| .op (.mv 12 (.t 45)) none <| .op (.mv 13 (.t 46)) none <| .op (.st 14 (.t 47) 6) none <| .op (.mv 15 (.t 48)) none <| .nil)) <|
  (.seq (.pre [.keep [2, 3, 13, 15]] (.reg (.op (.idxA 49 (.t 2) (.c ⟨.int .i64, ((1 : Int) : Int)⟩) 1 2) none <| .op (.ld 50 49 1 false) none <| .op (.idxA 51 (.t 2) (.c ⟨.int .i64, ((0 : Int) : Int)⟩) 1 2) none <| .op (.ld 52 51 1 false) none <| .op (.bin 53 .gtr (.t 50) (.t 52)) none <| .op (.mv 54 (.t 53)) none <| .grp 54 false (.op (.idxA 55 (.t 2) (.c ⟨.int .i64, ((1 : Int) : Int)⟩) 1 2) (some ([2, 54, 55], [55])) <| .op (.ld 56 55 1 false) (some ([2, 54, 55, 56], [56])) <| .op (.idxA 57 (.t 2) (.c ⟨.int .i64, ((0 : Int) : Int)⟩) 1 2) (some ([2, 54, 57], [57])) <| .op (.ld 58 57 1 false) (some ([2, 54, 57, 58], [58])) <| .op (.bin 59 .eql (.t 56) (.t 58)) (some ([54, 56, 58, 59], [59])) <| .op (.mv 60 (.t 59)) (some ([54, 59, 60], [60])) <| .grp 60 true (.op (.idxA 61 (.t 3) (.c ⟨.int .i64, ((1 : Int) : Int)⟩) 1 2) (some ([3, 60, 61], [61])) <| .op (.ld 62 61 1 false) (some ([3, 60, 61, 62], [62])) <| .op (.idxA 63 (.t 3) (.c ⟨.int .i64, ((0 : Int) : Int)⟩) 1 2) (some ([3, 60, 63], [63])) <| .op (.ld 64 63 1 false) (some ([3, 60, 63, 64], [64])) <| .op (.bin 65 .gtr (.t 62) (.t 64)) (some ([60, 62, 64, 65], [65])) <| .nil) 65 66 [61, 62, 63, 64, 65] <| .nil) 66 67 [55, 56, 57, 58, 59, 60, 61, 62, 63, 64, 65, 66] <| .op (.mv 16 (.t 67)) none <| .nil))) <|
  (.seq (.reg (.op (.call (some 68) (law11_live.sp n) []) none <| .op (.mv 69 (.t 68)) none <| .grp 69 true (.op (.mv 70 (.t 15)) (some ([15, 69, 70], [70])) <| .op (.un 71 .not (.t 70)) (some ([69, 70, 71], [71])) <| .nil) 71 72 [70, 71] <| .op (.mv 73 (.t 72)) none <| .grp 73 true (.op (.mv 74 (.t 13)) (some ([13, 73, 74], [74])) <| .op (.idxA 75 (.t 3) (.c ⟨.int .i64, ((1 : Int) : Int)⟩) 1 2) (some ([3, 73, 75], [75])) <| .op (.ld 76 75 1 false) (some ([3, 73, 75, 76], [76])) <| .op (.bin 77 .neq (.t 76) (.c ⟨.int .u32, ((0 : Int) : Int)⟩)) (some ([73, 76, 77], [77])) <| .op (.mv 78 (.t 77)) (some ([73, 77, 78], [78])) <| .grp 78 true (.op (.mv 79 (.t 16)) (some ([16, 78, 79], [79])) <| .op (.mv 80 (.t 79)) (some ([78, 79, 80], [80])) <| .grp 80 false (.op (.idxA 81 (.t 3) (.c ⟨.int .i64, ((0 : Int) : Int)⟩) 1 2) (some ([3, 80, 81], [81])) <| .op (.ld 82 81 1 false) (some ([3, 80, 81, 82], [82])) <| .op (.bin 83 .eql (.t 82) (.c ⟨.int .u32, ((0 : Int) : Int)⟩)) (some ([80, 82, 83], [83])) <| .nil) 83 84 [81, 82, 83] <| .nil) 84 85 [79, 80, 81, 82, 83, 84] <| .op (.eqs 86 false (.t 74) (.t 85) .bool) (some ([73, 74, 85, 86], [86])) <| .nil) 86 87 [74, 75, 76, 77, 78, 79, 80, 81, 82, 83, 84, 85, 86] <| .op (.mv 4 (.t 87)) none <| .nil)) <|
  .ret)))))))))
noncomputable abbrev law11_RpcOlder.c (n : Nat) : XC := law11_RpcOlder.d n
noncomputable def law11_RpcOlder.f (n : Nat) (a0 : List Int) (a1 : List Int) : Option Bool :=
  (rpc_NewCallee.f n).bind fun r1 => inK' (0 : Int) 2 ((lnth a0 (0 : Int)).bind fun e2 => inK' (0 : Int) 2 ((lnth a1 (0 : Int)).bind fun e3 => inK' (1 : Int) 2 ((lnth a0 (1 : Int)).bind fun e4 => inK' (1 : Int) 2 ((lnth a1 (1 : Int)).bind fun e5 => (rpc_Callee_Take.f n (some (r1.1, r1.2)) ((1 : Int), (1 : Int), (0 : Int), e2, e3, ([97] : List Int), ())).bind fun r6 => (r6.1).bind fun p7 => inK' (0 : Int) 2 ((lnth a1 (0 : Int)).bind fun e8 => bif (!(bbeq r6.2.2.1 (!decide (e8 = (0 : Int))))) then (some false)
  else ((rpc_Callee_Take.f n (some (p7.1, p7.2)) ((1 : Int), (1 : Int), (0 : Int), e4, e5, ([98] : List Int), ())).bind fun r9 => (r9.1).bind fun p10 => inK' (1 : Int) 2 ((lnth a0 (1 : Int)).bind fun e11 => inK' (0 : Int) 2 ((lnth a0 (0 : Int)).bind fun e12 => (bif (decide (e12 < e11)) then some true else (inK' (1 : Int) 2 ((lnth a0 (1 : Int)).bind fun e14 => inK' (0 : Int) 2 ((lnth a0 (0 : Int)).bind fun e15 => (bif (decide (e14 = e15)) then (inK' (1 : Int) 2 ((lnth a1 (1 : Int)).bind fun e17 => inK' (0 : Int) 2 ((lnth a1 (0 : Int)).bind fun e18 => some (decide (e18 < e17))))) else some false).bind fun g16 =>
  some g16)))).bind fun g13 =>
  (law11_live.f n).bind fun r19 => (bif r19 then (some (!r9.2.2.2.2.1)) else some false).bind fun g20 =>
  (bif g20 then (inK' (1 : Int) 2 ((lnth a1 (1 : Int)).bind fun e22 => (bif (!decide (e22 = (0 : Int))) then ((bif g13 then some true else (inK' (0 : Int) 2 ((lnth a1 (0 : Int)).bind fun e25 => some (decide (e25 = (0 : Int)))))).bind fun g24 =>
  some g24) else some false).bind fun g23 =>
  some (bbeq r9.2.2.1 g23))) else some false).bind fun g21 =>
  some g21))))))))
theorem law11_RpcOlder.ok (n : Nat) (a0 : List Int) (a1 : List Int) : evFn (law11_RpcOlder.c n) law11_RpcOlder.rs law11_RpcOlder.ps law11_RpcOlder.r (a0, a1, ()) = law11_RpcOlder.f n a0 a1 := by kernel_rfl
noncomputable def law11_RpcOlder.sp (n : Nat) : FSpec := { f := 3, ps := law11_RpcOlder.ps, r := law11_RpcOlder.r, run := fun x => law11_RpcOlder.f n x.1 x.2.1 }
theorem law11_RpcOlder.calls (n : Nat) : (law11_RpcOlder.c n).calls = [rpc_NewCallee.sp n, rpc_Callee_Take.sp n, rpc_Callee_Take.sp n, law11_live.sp n] := by kernel_rfl
theorem law11_RpcOlder.fits (n : Nat) : fnB tab hd Try.f3 (law11_RpcOlder.c n) law11_RpcOlder.rs (law11_RpcOlder.sp n).ps (law11_RpcOlder.sp n).r = true := by kernel_rfl
theorem law11_RpcOlder.sound (n : Nat) : Sound Try.prog (law11_RpcOlder.sp n) := by
  refine fnB_sound tabOk eqFacts mixed (fn := Try.f3) (c := law11_RpcOlder.c n) (rs := law11_RpcOlder.rs) (by kernel_rfl) ?_ (law11_RpcOlder.fits n) ?_
  · rw [law11_RpcOlder.calls]
    intro s hs
    simp only [List.mem_cons, List.not_mem_nil, or_false] at hs
    rcases hs with rfl | rfl | rfl | rfl
    · exact rpc_NewCallee.sound n
    · exact rpc_Callee_Take.sound n
    · exact rpc_Callee_Take.sound n
    · exact law11_live.sound n
  · rintro ⟨a0, a1, ⟨⟩⟩ y h
    exact (law11_RpcOlder.ok n a0 a1).trans h
/-! (*backwater/rpc.Caller).Down -/
abbrev rpc_Caller_Down.ps : List (Ty × Bool) := [(.oref TCaller, false)]
abbrev rpc_Caller_Down.r : Ty := .bool
abbrev rpc_Caller_Down.rs : List RV := [.t 2]
abbrev rpc_Caller_Down.R : Type := (rtOf rpc_Caller_Down.ps rpc_Caller_Down.r).den
noncomputable def rpc_Caller_Down.d (n : Nat) : XC :=
  (.seq (.reg (.op (.mv 2 (.c ⟨.bool, (false : Bool)⟩)) none <| .nil)) <|
  (.seq (.reg (.op (.mv 3 (.t 0)) none <| .op (.call (some 4) (rpc_Caller_Busy.sp n) [.r 3]) none <| .op (.mv 5 (.t 4)) none <| .grp 5 true (.op (.mv 6 (.t 0)) (some ([0, 5, 6], [6])) <| .op (.nilchk 7 (.t 6)) (some ([5, 6, 7], [7])) <| .op (.fa 8 7 2 7) (some ([5, 7, 8], [8])) <| .op (.ld 9 8 1 false) (some ([5, 8, 9], [9])) <| .op (.bin 10 .gtr (.t 9) (.c ⟨.int .i64, ((5 : Int) : Int)⟩)) (some ([5, 9, 10], [10])) <| .nil) 10 11 [6, 7, 8, 9, 10] <| .op (.mv 2 (.t 11)) none <| .nil)) <|
  .ret))
noncomputable abbrev rpc_Caller_Down.c (n : Nat) : XC := rpc_Caller_Down.d n
noncomputable def rpc_Caller_Down.f (n : Nat) (a0 : Option DCaller) : Option Bool :=
  (rpc_Caller_Busy.f n a0).bind fun r1 => (bif r1 then (optM a0 none fun p3 => some (decide ((5 : Int) < p3.2.2.1))) else some false).bind fun g2 =>
  some g2
theorem rpc_Caller_Down.ok (n : Nat) (a0 : Option DCaller) : evFn (rpc_Caller_Down.c n) rpc_Caller_Down.rs rpc_Caller_Down.ps rpc_Caller_Down.r (a0, ()) = rpc_Caller_Down.f n a0 := by kernel_rfl
noncomputable def rpc_Caller_Down.sp (n : Nat) : FSpec := { f := 17, ps := rpc_Caller_Down.ps, r := rpc_Caller_Down.r, run := fun x => rpc_Caller_Down.f n x.1 }
theorem rpc_Caller_Down.calls (n : Nat) : (rpc_Caller_Down.c n).calls = [rpc_Caller_Busy.sp n] := by kernel_rfl
theorem rpc_Caller_Down.fits (n : Nat) : fnB tab hd Try.f17 (rpc_Caller_Down.c n) rpc_Caller_Down.rs (rpc_Caller_Down.sp n).ps (rpc_Caller_Down.sp n).r = true := by kernel_rfl
theorem rpc_Caller_Down.sound (n : Nat) : Sound Try.prog (rpc_Caller_Down.sp n) := by
  refine fnB_sound tabOk eqFacts mixed (fn := Try.f17) (c := rpc_Caller_Down.c n) (rs := rpc_Caller_Down.rs) (by kernel_rfl) ?_ (rpc_Caller_Down.fits n) ?_
  · rw [rpc_Caller_Down.calls]
    intro s hs
    simp only [List.mem_cons, List.not_mem_nil, or_false] at hs
    rcases hs with rfl
    · exact rpc_Caller_Busy.sound n
  · rintro ⟨a0, ⟨⟩⟩ y h
    exact (rpc_Caller_Down.ok n a0).trans h
/-! backwater/backwaterlaw11.RpcWaits -/
abbrev law11_RpcWaits.ps : List (Ty × Bool) := [(.slB .U false (.int .u8), false)]
abbrev law11_RpcWaits.r : Ty := .bool
abbrev law11_RpcWaits.rs : List RV := [.t 2]
abbrev law11_RpcWaits.R : Type := (rtOf law11_RpcWaits.ps law11_RpcWaits.r).den
noncomputable def law11_RpcWaits.d2 (n : Nat) : XC :=
  (.seq (.reg (.op (.call (some 64) (law11_live.sp n) []) none <| .op (.mv 2 (.t 64)) none <| .nil)) <|
  .ret)
noncomputable abbrev law11_RpcWaits.c2 (n : Nat) : XC := law11_RpcWaits.d2 n
noncomputable def law11_RpcWaits.j2 (n : Nat)  : Option Bool :=
  (law11_live.f n).bind fun r1 => some r1
theorem law11_RpcWaits.s2 (n : Nat)  : ev (law11_RpcWaits.c2 n) [] (⟨retK law11_RpcWaits.rs law11_RpcWaits.ps law11_RpcWaits.r, []⟩ : Ks law11_RpcWaits.R) (retK law11_RpcWaits.rs law11_RpcWaits.ps law11_RpcWaits.r) = law11_RpcWaits.j2 n  := by kernel_rfl
noncomputable def law11_RpcWaits.H2 (n : Nat) (X : XC) : St → Option law11_RpcWaits.R := fun st => ghK [.keep []] st fun st => ev X st (⟨retK law11_RpcWaits.rs law11_RpcWaits.ps law11_RpcWaits.r, []⟩ : Ks law11_RpcWaits.R) (retK law11_RpcWaits.rs law11_RpcWaits.ps law11_RpcWaits.r)
noncomputable abbrev law11_RpcWaits.K2 (n : Nat) : St → Option law11_RpcWaits.R := law11_RpcWaits.H2 n (law11_RpcWaits.c2 n)
noncomputable def law11_RpcWaits.Kb3 (Kr3 : St → Option law11_RpcWaits.R) : St → Option law11_RpcWaits.R := fun st => ghK [.keep [0, 3, 4, 5, 6, 7]] st Kr3
noncomputable def law11_RpcWaits.d4 (n : Nat) : XC :=
  (.aft (.reg (.op (.mv 23 (.t 7)) none <| .op (.bin 24 .add (.t 23) (.c ⟨.int .i64, ((1 : Int) : Int)⟩)) none <| .op (.mv 7 (.t 24)) none <| .nil)) [.keep [0, 3, 4, 5, 6, 7]])
noncomputable abbrev law11_RpcWaits.c4 (n : Nat) : XC := law11_RpcWaits.d4 n
theorem law11_RpcWaits.qb3_0 (Kr3 : St → Option law11_RpcWaits.R) (kr3 : (List Int) → (Option DCaller) → Int → Int → Int → Int → Option Bool) (hK3 : ∀ (x0 : List Int) (x3 : Option DCaller) (x4 : Int) (x5 : Int) (x6 : Int) (x7 : Int), Kr3 [(0, some ⟨.slB .U false (.int .u8), x0⟩), (3, some ⟨.opt TCaller, x3⟩), (4, some ⟨.int .u64, x4⟩), (5, some ⟨.int .u64, x5⟩), (6, some ⟨.int .i64, x6⟩), (7, some ⟨.int .i64, x7⟩)] = kr3 x0 x3 x4 x5 x6 x7) (x0 : List Int) (x3 : Option DCaller) (x4 : Int) (x5 : Int) (x6 : Int) (x7 : Int) : law11_RpcWaits.Kb3 Kr3 [(0, some ⟨.slB .U false (.int .u8), x0⟩), (3, some ⟨.opt TCaller, x3⟩), (4, some ⟨.int .u64, x4⟩), (5, some ⟨.int .u64, x5⟩), (6, some ⟨.int .i64, x6⟩), (7, some ⟨.int .i64, x7⟩)] = kr3 x0 x3 x4 x5 x6 x7 := (by kernel_rfl : _ = Kr3 [(0, some ⟨.slB .U false (.int .u8), x0⟩), (3, some ⟨.opt TCaller, x3⟩), (4, some ⟨.int .u64, x4⟩), (5, some ⟨.int .u64, x5⟩), (6, some ⟨.int .i64, x6⟩), (7, some ⟨.int .i64, x7⟩)]).trans (hK3 x0 x3 x4 x5 x6 x7)
noncomputable def law11_RpcWaits.j4 (n : Nat) (kr3 : (List Int) → (Option DCaller) → Int → Int → Int → Int → Option Bool) (x0 : List Int) (x3 : Option DCaller) (x4 : Int) (x5 : Int) (x6 : Int) (x7 : Int) : Option Bool :=
  kr3 x0 x3 x4 x5 x6 (IntKind.i64.wrap (x7 + (1 : Int)))
theorem law11_RpcWaits.w4 (n : Nat) (Kr3 : St → Option law11_RpcWaits.R) (x0 : List Int) (x3 : Option DCaller) (x4 : Int) (x5 : Int) (x6 : Int) (x7 : Int) (K2 : St → Option law11_RpcWaits.R) (Kb3 : St → Option law11_RpcWaits.R) : ev (law11_RpcWaits.d4 n) [(0, some ⟨.slB .U false (.int .u8), x0⟩), (3, some ⟨.opt TCaller, x3⟩), (4, some ⟨.int .u64, x4⟩), (5, some ⟨.int .u64, x5⟩), (6, some ⟨.int .i64, x6⟩), (7, some ⟨.int .i64, x7⟩)] (⟨retK law11_RpcWaits.rs law11_RpcWaits.ps law11_RpcWaits.r, [(0, K2)]⟩ : Ks law11_RpcWaits.R) Kb3 =
  (Kb3 [(0, some ⟨.slB .U false (.int .u8), x0⟩), (3, some ⟨.opt TCaller, x3⟩), (4, some ⟨.int .u64, x4⟩), (5, some ⟨.int .u64, x5⟩), (6, some ⟨.int .i64, x6⟩), (7, some ⟨.int .i64, (IntKind.i64.wrap (x7 + (1 : Int)))⟩)] : Option law11_RpcWaits.R) := by kernel_rfl
theorem law11_RpcWaits.s4 (n : Nat) (Kr3 : St → Option law11_RpcWaits.R) (kr3 : (List Int) → (Option DCaller) → Int → Int → Int → Int → Option Bool) (hK3 : ∀ (x0 : List Int) (x3 : Option DCaller) (x4 : Int) (x5 : Int) (x6 : Int) (x7 : Int), Kr3 [(0, some ⟨.slB .U false (.int .u8), x0⟩), (3, some ⟨.opt TCaller, x3⟩), (4, some ⟨.int .u64, x4⟩), (5, some ⟨.int .u64, x5⟩), (6, some ⟨.int .i64, x6⟩), (7, some ⟨.int .i64, x7⟩)] = kr3 x0 x3 x4 x5 x6 x7) (x0 : List Int) (x3 : Option DCaller) (x4 : Int) (x5 : Int) (x6 : Int) (x7 : Int) : ev (law11_RpcWaits.c4 n) [(0, some ⟨.slB .U false (.int .u8), x0⟩), (3, some ⟨.opt TCaller, x3⟩), (4, some ⟨.int .u64, x4⟩), (5, some ⟨.int .u64, x5⟩), (6, some ⟨.int .i64, x6⟩), (7, some ⟨.int .i64, x7⟩)] (⟨retK law11_RpcWaits.rs law11_RpcWaits.ps law11_RpcWaits.r, [(0, (law11_RpcWaits.K2 n))]⟩ : Ks law11_RpcWaits.R) (law11_RpcWaits.Kb3 Kr3) = law11_RpcWaits.j4 n kr3 x0 x3 x4 x5 x6 x7 := (law11_RpcWaits.w4 n Kr3 x0 x3 x4 x5 x6 x7 (law11_RpcWaits.K2 n) (law11_RpcWaits.Kb3 Kr3)).trans (by simp only [law11_RpcWaits.j4, law11_RpcWaits.qb3_0 Kr3 kr3 hK3] <;> kernel_rfl)
noncomputable def law11_RpcWaits.H4 (n : Nat) (K2 : St → Option law11_RpcWaits.R) (Kb3 : St → Option law11_RpcWaits.R) (X : XC) : St → Option law11_RpcWaits.R := fun st => ghK [.coe 3 (.opt TCaller), .keep [0, 3, 4, 5, 6, 7]] st fun st => ev X st (⟨retK law11_RpcWaits.rs law11_RpcWaits.ps law11_RpcWaits.r, [(0, K2)]⟩ : Ks law11_RpcWaits.R) Kb3
noncomputable abbrev law11_RpcWaits.K4 (n : Nat) (Kr3 : St → Option law11_RpcWaits.R) : St → Option law11_RpcWaits.R := law11_RpcWaits.H4 n (law11_RpcWaits.K2 n) (law11_RpcWaits.Kb3 Kr3) (law11_RpcWaits.c4 n)
noncomputable def law11_RpcWaits.d6 (n : Nat) : XC :=
  (.seq (.pre [.split 3 []] (.reg (.op (.bor 54 3) none <| .op (.call (some 55) (rpc_Caller_Down.sp n) [.r 54]) none <| .op (.mv 56 (.t 6)) none <| .op (.bin 57 .gtr (.t 56) (.c ⟨.int .i64, ((5 : Int) : Int)⟩)) none <| .op (.eqs 58 true (.t 55) (.t 57) .bool) none <| .op (.mv 59 (.t 58)) none <| .grp 59 false (.op (.bor 60 3) (some ([3, 59, 60], [60])) <| .op (.call (some 61) (rpc_Caller_Busy.sp n) [.r 60]) (some ([3, 59, 60, 61], [61])) <| .op (.un 62 .not (.t 61)) (some ([59, 61, 62], [62])) <| .nil) 62 63 [60, 61, 62] <| .nil))) <|
  (.cond (.t 63)
  (.seq (.pre [.keep []] (.reg (.op (.mv 2 (.c ⟨.bool, (false : Bool)⟩)) none <| .nil))) <|
  .ret)
  .skip))
noncomputable abbrev law11_RpcWaits.c6 (n : Nat) : XC := law11_RpcWaits.d6 n
theorem law11_RpcWaits.q4_0_r (n : Nat) (Kr3 : St → Option law11_RpcWaits.R) (K2 : St → Option law11_RpcWaits.R) (Kb3 : St → Option law11_RpcWaits.R) (X : XC) (x0 : List Int) (x3 : Option DCaller) (x4 : Int) (x5 : Int) (x6 : Int) (x7 : Int) : law11_RpcWaits.H4 n K2 Kb3 X [(0, some ⟨.slB .U false (.int .u8), x0⟩), (3, some ⟨.opt TCaller, x3⟩), (4, some ⟨.int .u64, x4⟩), (5, some ⟨.int .u64, x5⟩), (6, some ⟨.int .i64, x6⟩), (7, some ⟨.int .i64, x7⟩)] = (ev X [(0, some ⟨.slB .U false (.int .u8), x0⟩), (3, some ⟨.opt TCaller, x3⟩), (4, some ⟨.int .u64, x4⟩), (5, some ⟨.int .u64, x5⟩), (6, some ⟨.int .i64, x6⟩), (7, some ⟨.int .i64, x7⟩)] (⟨retK law11_RpcWaits.rs law11_RpcWaits.ps law11_RpcWaits.r, [(0, K2)]⟩ : Ks law11_RpcWaits.R) Kb3 : Option law11_RpcWaits.R) := by kernel_rfl
theorem law11_RpcWaits.q4_0 (n : Nat) (Kr3 : St → Option law11_RpcWaits.R) (kr3 : (List Int) → (Option DCaller) → Int → Int → Int → Int → Option Bool) (hK3 : ∀ (x0 : List Int) (x3 : Option DCaller) (x4 : Int) (x5 : Int) (x6 : Int) (x7 : Int), Kr3 [(0, some ⟨.slB .U false (.int .u8), x0⟩), (3, some ⟨.opt TCaller, x3⟩), (4, some ⟨.int .u64, x4⟩), (5, some ⟨.int .u64, x5⟩), (6, some ⟨.int .i64, x6⟩), (7, some ⟨.int .i64, x7⟩)] = kr3 x0 x3 x4 x5 x6 x7) (x0 : List Int) (x3 : Option DCaller) (x4 : Int) (x5 : Int) (x6 : Int) (x7 : Int) : law11_RpcWaits.K4 n Kr3 [(0, some ⟨.slB .U false (.int .u8), x0⟩), (3, some ⟨.opt TCaller, x3⟩), (4, some ⟨.int .u64, x4⟩), (5, some ⟨.int .u64, x5⟩), (6, some ⟨.int .i64, x6⟩), (7, some ⟨.int .i64, x7⟩)] = law11_RpcWaits.j4 n kr3 x0 x3 x4 x5 x6 x7 := (law11_RpcWaits.q4_0_r n Kr3 (law11_RpcWaits.K2 n) (law11_RpcWaits.Kb3 Kr3) (law11_RpcWaits.c4 n) x0 x3 x4 x5 x6 x7).trans (law11_RpcWaits.s4 n Kr3 kr3 hK3 x0 x3 x4 x5 x6 x7)
theorem law11_RpcWaits.q4_1_r (n : Nat) (Kr3 : St → Option law11_RpcWaits.R) (K2 : St → Option law11_RpcWaits.R) (Kb3 : St → Option law11_RpcWaits.R) (X : XC) (x0 : List Int) (x3 : DCaller) (x4 : Int) (x5 : Int) (x6 : Int) (x7 : Int) : law11_RpcWaits.H4 n K2 Kb3 X [(0, some ⟨.slB .U false (.int .u8), x0⟩), (3, some ⟨.box TCaller, x3⟩), (4, some ⟨.int .u64, x4⟩), (5, some ⟨.int .u64, x5⟩), (6, some ⟨.int .i64, x6⟩), (7, some ⟨.int .i64, x7⟩)] = (ev X [(0, some ⟨.slB .U false (.int .u8), x0⟩), (3, some ⟨.opt TCaller, ((some ((x3.1.1, x3.1.2.1, x3.1.2.2.1, x3.1.2.2.2.1, x3.1.2.2.2.2.1, x3.1.2.2.2.2.2.1, x3.1.2.2.2.2.2.2), x3.2.1, x3.2.2.1, x3.2.2.2.1, x3.2.2.2.2)) : Option DCaller)⟩), (4, some ⟨.int .u64, x4⟩), (5, some ⟨.int .u64, x5⟩), (6, some ⟨.int .i64, x6⟩), (7, some ⟨.int .i64, x7⟩)] (⟨retK law11_RpcWaits.rs law11_RpcWaits.ps law11_RpcWaits.r, [(0, K2)]⟩ : Ks law11_RpcWaits.R) Kb3 : Option law11_RpcWaits.R) := by kernel_rfl
theorem law11_RpcWaits.q4_1 (n : Nat) (Kr3 : St → Option law11_RpcWaits.R) (kr3 : (List Int) → (Option DCaller) → Int → Int → Int → Int → Option Bool) (hK3 : ∀ (x0 : List Int) (x3 : Option DCaller) (x4 : Int) (x5 : Int) (x6 : Int) (x7 : Int), Kr3 [(0, some ⟨.slB .U false (.int .u8), x0⟩), (3, some ⟨.opt TCaller, x3⟩), (4, some ⟨.int .u64, x4⟩), (5, some ⟨.int .u64, x5⟩), (6, some ⟨.int .i64, x6⟩), (7, some ⟨.int .i64, x7⟩)] = kr3 x0 x3 x4 x5 x6 x7) (x0 : List Int) (x3 : DCaller) (x4 : Int) (x5 : Int) (x6 : Int) (x7 : Int) : law11_RpcWaits.K4 n Kr3 [(0, some ⟨.slB .U false (.int .u8), x0⟩), (3, some ⟨.box TCaller, x3⟩), (4, some ⟨.int .u64, x4⟩), (5, some ⟨.int .u64, x5⟩), (6, some ⟨.int .i64, x6⟩), (7, some ⟨.int .i64, x7⟩)] = law11_RpcWaits.j4 n kr3 x0 (some ((x3.1.1, x3.1.2.1, x3.1.2.2.1, x3.1.2.2.2.1, x3.1.2.2.2.2.1, x3.1.2.2.2.2.2.1, x3.1.2.2.2.2.2.2), x3.2.1, x3.2.2.1, x3.2.2.2.1, x3.2.2.2.2)) x4 x5 x6 x7 := (law11_RpcWaits.q4_1_r n Kr3 (law11_RpcWaits.K2 n) (law11_RpcWaits.Kb3 Kr3) (law11_RpcWaits.c4 n) x0 x3 x4 x5 x6 x7).trans (law11_RpcWaits.s4 n Kr3 kr3 hK3 x0 (some ((x3.1.1, x3.1.2.1, x3.1.2.2.1, x3.1.2.2.2.1, x3.1.2.2.2.2.1, x3.1.2.2.2.2.2.1, x3.1.2.2.2.2.2.2), x3.2.1, x3.2.2.1, x3.2.2.2.1, x3.2.2.2.2)) x4 x5 x6 x7)
noncomputable def law11_RpcWaits.j6 (n : Nat) (kr3 : (List Int) → (Option DCaller) → Int → Int → Int → Int → Option Bool) (x0 : List Int) (x3 : Option DCaller) (x4 : Int) (x5 : Int) (x6 : Int) (x7 : Int) : Option Bool :=
  optM x3 ((rpc_Caller_Down.f n none).bind fun r2 => (bif (!(bbeq r2 (decide ((5 : Int) < x6)))) then some true else ((rpc_Caller_Busy.f n none).bind fun r4 => some (!r4))).bind fun g3 =>
  bif g3 then (some false)
  else (law11_RpcWaits.j4 n kr3 x0 none x4 x5 x6 x7)) fun p1 => (rpc_Caller_Down.f n (some ((p1.1.1, p1.1.2.1, p1.1.2.2.1, p1.1.2.2.2.1, p1.1.2.2.2.2.1, p1.1.2.2.2.2.2.1, p1.1.2.2.2.2.2.2), p1.2.1, p1.2.2.1, p1.2.2.2.1, p1.2.2.2.2))).bind fun r5 => (bif (!(bbeq r5 (decide ((5 : Int) < x6)))) then some true else ((rpc_Caller_Busy.f n (some ((p1.1.1, p1.1.2.1, p1.1.2.2.1, p1.1.2.2.2.1, p1.1.2.2.2.2.1, p1.1.2.2.2.2.2.1, p1.1.2.2.2.2.2.2), p1.2.1, p1.2.2.1, p1.2.2.2.1, p1.2.2.2.2))).bind fun r7 => some (!r7))).bind fun g6 =>
  bif g6 then (some false)
  else (law11_RpcWaits.j4 n kr3 x0 (some ((p1.1.1, p1.1.2.1, p1.1.2.2.1, p1.1.2.2.2.1, p1.1.2.2.2.2.1, p1.1.2.2.2.2.2.1, p1.1.2.2.2.2.2.2), p1.2.1, p1.2.2.1, p1.2.2.2.1, p1.2.2.2.2)) x4 x5 x6 x7)
theorem law11_RpcWaits.w6 (n : Nat) (Kr3 : St → Option law11_RpcWaits.R) (x0 : List Int) (x3 : Option DCaller) (x4 : Int) (x5 : Int) (x6 : Int) (x7 : Int) (K4 : St → Option law11_RpcWaits.R) (K2 : St → Option law11_RpcWaits.R) : ev (law11_RpcWaits.d6 n) [(0, some ⟨.slB .U false (.int .u8), x0⟩), (3, some ⟨.opt TCaller, x3⟩), (4, some ⟨.int .u64, x4⟩), (5, some ⟨.int .u64, x5⟩), (6, some ⟨.int .i64, x6⟩), (7, some ⟨.int .i64, x7⟩)] (⟨retK law11_RpcWaits.rs law11_RpcWaits.ps law11_RpcWaits.r, [(1, K4), (0, K2)]⟩ : Ks law11_RpcWaits.R) (fun st => ghK [.keep [0, 3, 4, 5, 6, 7]] st K4) =
  (optM x3 ((rpc_Caller_Down.f n none).bind fun r2 => (bif (!(bbeq r2 (decide ((5 : Int) < x6)))) then some true else ((rpc_Caller_Busy.f n none).bind fun r4 => some (!r4))).bind fun g3 =>
  bif g3 then (some false)
  else (K4 [(0, some ⟨.slB .U false (.int .u8), x0⟩), (3, some ⟨.opt TCaller, (none : Option DCaller)⟩), (4, some ⟨.int .u64, x4⟩), (5, some ⟨.int .u64, x5⟩), (6, some ⟨.int .i64, x6⟩), (7, some ⟨.int .i64, x7⟩)])) fun p1 => (rpc_Caller_Down.f n (some ((p1.1.1, p1.1.2.1, p1.1.2.2.1, p1.1.2.2.2.1, p1.1.2.2.2.2.1, p1.1.2.2.2.2.2.1, p1.1.2.2.2.2.2.2), p1.2.1, p1.2.2.1, p1.2.2.2.1, p1.2.2.2.2))).bind fun r5 => (bif (!(bbeq r5 (decide ((5 : Int) < x6)))) then some true else ((rpc_Caller_Busy.f n (some ((p1.1.1, p1.1.2.1, p1.1.2.2.1, p1.1.2.2.2.1, p1.1.2.2.2.2.1, p1.1.2.2.2.2.2.1, p1.1.2.2.2.2.2.2), p1.2.1, p1.2.2.1, p1.2.2.2.1, p1.2.2.2.2))).bind fun r7 => some (!r7))).bind fun g6 =>
  bif g6 then (some false)
  else (K4 [(0, some ⟨.slB .U false (.int .u8), x0⟩), (3, some ⟨.box TCaller, p1⟩), (4, some ⟨.int .u64, x4⟩), (5, some ⟨.int .u64, x5⟩), (6, some ⟨.int .i64, x6⟩), (7, some ⟨.int .i64, x7⟩)]) : Option law11_RpcWaits.R) := by kernel_rfl
theorem law11_RpcWaits.s6 (n : Nat) (Kr3 : St → Option law11_RpcWaits.R) (kr3 : (List Int) → (Option DCaller) → Int → Int → Int → Int → Option Bool) (hK3 : ∀ (x0 : List Int) (x3 : Option DCaller) (x4 : Int) (x5 : Int) (x6 : Int) (x7 : Int), Kr3 [(0, some ⟨.slB .U false (.int .u8), x0⟩), (3, some ⟨.opt TCaller, x3⟩), (4, some ⟨.int .u64, x4⟩), (5, some ⟨.int .u64, x5⟩), (6, some ⟨.int .i64, x6⟩), (7, some ⟨.int .i64, x7⟩)] = kr3 x0 x3 x4 x5 x6 x7) (x0 : List Int) (x3 : Option DCaller) (x4 : Int) (x5 : Int) (x6 : Int) (x7 : Int) : ev (law11_RpcWaits.c6 n) [(0, some ⟨.slB .U false (.int .u8), x0⟩), (3, some ⟨.opt TCaller, x3⟩), (4, some ⟨.int .u64, x4⟩), (5, some ⟨.int .u64, x5⟩), (6, some ⟨.int .i64, x6⟩), (7, some ⟨.int .i64, x7⟩)] (⟨retK law11_RpcWaits.rs law11_RpcWaits.ps law11_RpcWaits.r, [(1, (law11_RpcWaits.K4 n Kr3)), (0, (law11_RpcWaits.K2 n))]⟩ : Ks law11_RpcWaits.R) (fun st => ghK [.keep [0, 3, 4, 5, 6, 7]] st (law11_RpcWaits.K4 n Kr3)) = law11_RpcWaits.j6 n kr3 x0 x3 x4 x5 x6 x7 := (law11_RpcWaits.w6 n Kr3 x0 x3 x4 x5 x6 x7 (law11_RpcWaits.K4 n Kr3) (law11_RpcWaits.K2 n)).trans (by simp only [law11_RpcWaits.j6, law11_RpcWaits.q4_0 n Kr3 kr3 hK3, law11_RpcWaits.q4_1 n Kr3 kr3 hK3] <;> kernel_rfl)
noncomputable def law11_RpcWaits.H6 (n : Nat) (K4 : St → Option law11_RpcWaits.R) (K2 : St → Option law11_RpcWaits.R) (X : XC) : St → Option law11_RpcWaits.R := fun st => ghK [.keep [0, 3, 4, 5, 6, 7]] st fun st => ev X st (⟨retK law11_RpcWaits.rs law11_RpcWaits.ps law11_RpcWaits.r, [(1, K4), (0, K2)]⟩ : Ks law11_RpcWaits.R) (fun st => ghK [.keep [0, 3, 4, 5, 6, 7]] st K4)
noncomputable abbrev law11_RpcWaits.K6 (n : Nat) (Kr3 : St → Option law11_RpcWaits.R) : St → Option law11_RpcWaits.R := law11_RpcWaits.H6 n (law11_RpcWaits.K4 n Kr3) (law11_RpcWaits.K2 n) (law11_RpcWaits.c6 n)
noncomputable def law11_RpcWaits.d5 (n : Nat) (X6 : XC) : XC :=
  (.aft (.seq (.aft (.seq (.reg (.op (.mv 50 (.t 9)) none <| .nil)) <|
  (.cond (.t 50)
  (.seq (.reg (.op (.mv 51 (.t 4)) none <| .op (.mv 5 (.t 51)) none <| .nil)) <|
  (.reg (.op (.mv 52 (.t 6)) none <| .op (.bin 53 .add (.t 52) (.c ⟨.int .i64, ((1 : Int) : Int)⟩)) none <| .op (.mv 6 (.t 53)) none <| .nil)))
  .skip)) [.keep [0, 3, 4, 5, 6, 7]]) X6) [.keep [0, 3, 4, 5, 6, 7]])
noncomputable abbrev law11_RpcWaits.c5 (n : Nat) : XC := law11_RpcWaits.d5 n (law11_RpcWaits.c6 n)
noncomputable def law11_RpcWaits.j5 (n : Nat) (kr3 : (List Int) → (Option DCaller) → Int → Int → Int → Int → Option Bool) (x0 : List Int) (x3 : Option DCaller) (x4 : Int) (x5 : Int) (x6 : Int) (x7 : Int) (x9 : Bool) : Option Bool :=
  bif x9 then (law11_RpcWaits.j6 n kr3 x0 x3 x4 x4 (IntKind.i64.wrap (x6 + (1 : Int))) x7)
  else (law11_RpcWaits.j6 n kr3 x0 x3 x4 x5 x6 x7)
theorem law11_RpcWaits.w5 (n : Nat) (Kr3 : St → Option law11_RpcWaits.R) (x0 : List Int) (x3 : Option DCaller) (x4 : Int) (x5 : Int) (x6 : Int) (x7 : Int) (x9 : Bool) (K4 : St → Option law11_RpcWaits.R) (K2 : St → Option law11_RpcWaits.R) (X6 : XC) : ev (law11_RpcWaits.d5 n X6) [(0, some ⟨.slB .U false (.int .u8), x0⟩), (3, some ⟨.opt TCaller, x3⟩), (4, some ⟨.int .u64, x4⟩), (5, some ⟨.int .u64, x5⟩), (6, some ⟨.int .i64, x6⟩), (7, some ⟨.int .i64, x7⟩), (9, some ⟨.bool, x9⟩)] (⟨retK law11_RpcWaits.rs law11_RpcWaits.ps law11_RpcWaits.r, [(1, K4), (0, K2)]⟩ : Ks law11_RpcWaits.R) K4 =
  (bif x9 then (ev X6 [(0, some ⟨.slB .U false (.int .u8), x0⟩), (3, some ⟨.opt TCaller, x3⟩), (4, some ⟨.int .u64, x4⟩), (5, some ⟨.int .u64, x4⟩), (6, some ⟨.int .i64, (IntKind.i64.wrap (x6 + (1 : Int)))⟩), (7, some ⟨.int .i64, x7⟩)] (⟨retK law11_RpcWaits.rs law11_RpcWaits.ps law11_RpcWaits.r, [(1, K4), (0, K2)]⟩ : Ks law11_RpcWaits.R) (fun st => ghK [.keep [0, 3, 4, 5, 6, 7]] st K4))
  else (ev X6 [(0, some ⟨.slB .U false (.int .u8), x0⟩), (3, some ⟨.opt TCaller, x3⟩), (4, some ⟨.int .u64, x4⟩), (5, some ⟨.int .u64, x5⟩), (6, some ⟨.int .i64, x6⟩), (7, some ⟨.int .i64, x7⟩)] (⟨retK law11_RpcWaits.rs law11_RpcWaits.ps law11_RpcWaits.r, [(1, K4), (0, K2)]⟩ : Ks law11_RpcWaits.R) (fun st => ghK [.keep [0, 3, 4, 5, 6, 7]] st K4)) : Option law11_RpcWaits.R) := by kernel_rfl
theorem law11_RpcWaits.s5 (n : Nat) (Kr3 : St → Option law11_RpcWaits.R) (kr3 : (List Int) → (Option DCaller) → Int → Int → Int → Int → Option Bool) (hK3 : ∀ (x0 : List Int) (x3 : Option DCaller) (x4 : Int) (x5 : Int) (x6 : Int) (x7 : Int), Kr3 [(0, some ⟨.slB .U false (.int .u8), x0⟩), (3, some ⟨.opt TCaller, x3⟩), (4, some ⟨.int .u64, x4⟩), (5, some ⟨.int .u64, x5⟩), (6, some ⟨.int .i64, x6⟩), (7, some ⟨.int .i64, x7⟩)] = kr3 x0 x3 x4 x5 x6 x7) (x0 : List Int) (x3 : Option DCaller) (x4 : Int) (x5 : Int) (x6 : Int) (x7 : Int) (x9 : Bool) : ev (law11_RpcWaits.c5 n) [(0, some ⟨.slB .U false (.int .u8), x0⟩), (3, some ⟨.opt TCaller, x3⟩), (4, some ⟨.int .u64, x4⟩), (5, some ⟨.int .u64, x5⟩), (6, some ⟨.int .i64, x6⟩), (7, some ⟨.int .i64, x7⟩), (9, some ⟨.bool, x9⟩)] (⟨retK law11_RpcWaits.rs law11_RpcWaits.ps law11_RpcWaits.r, [(1, (law11_RpcWaits.K4 n Kr3)), (0, (law11_RpcWaits.K2 n))]⟩ : Ks law11_RpcWaits.R) (law11_RpcWaits.K4 n Kr3) = law11_RpcWaits.j5 n kr3 x0 x3 x4 x5 x6 x7 x9 := (law11_RpcWaits.w5 n Kr3 x0 x3 x4 x5 x6 x7 x9 (law11_RpcWaits.K4 n Kr3) (law11_RpcWaits.K2 n) (law11_RpcWaits.c6 n)).trans (by simp only [law11_RpcWaits.j5, law11_RpcWaits.s6 n Kr3 kr3 hK3] <;> kernel_rfl)
noncomputable def law11_RpcWaits.H5 (n : Nat) (K4 : St → Option law11_RpcWaits.R) (K2 : St → Option law11_RpcWaits.R) (X : XC) : St → Option law11_RpcWaits.R := fun st => ghK [.coe 3 (.opt TCaller), .keep [0, 3, 4, 5, 6, 7, 9]] st fun st => ev X st (⟨retK law11_RpcWaits.rs law11_RpcWaits.ps law11_RpcWaits.r, [(1, K4), (0, K2)]⟩ : Ks law11_RpcWaits.R) K4
noncomputable abbrev law11_RpcWaits.K5 (n : Nat) (Kr3 : St → Option law11_RpcWaits.R) : St → Option law11_RpcWaits.R := law11_RpcWaits.H5 n (law11_RpcWaits.K4 n Kr3) (law11_RpcWaits.K2 n) (law11_RpcWaits.c5 n)
noncomputable def law11_RpcWaits.db3 (n : Nat) (X4 X5 : XC) : XC :=
  (.aft (.seq (.seq (.reg (.op (.mv 15 (.t 7)) none <| .op (.mv 16 (.t 0)) none <| .op (.len 17 (.t 16) false) none <| .op (.bin 18 .lss (.t 15) (.t 17)) none <| .op (.mv 19 (.t 18)) none <| .grp 19 true (.op (.mv 20 (.t 7)) (some ([7, 19, 20], [20])) <| .op (.bin 21 .lss (.t 20) (.c ⟨.int .i64, ((40 : Int) : Int)⟩)) (some ([19, 20, 21], [21])) <| .nil) 21 22 [20, 21] <| .nil)) <|
  (.cond (.t 22)
  .skip
  (.pre [.keep []] (.exit 0)))) <|
  (.seq (.aft (.block 1 (.seq (.reg (.op (.mv 25 (.t 4)) none <| .op (.mv 26 (.t 0)) none <| .op (.mv 27 (.t 7)) none <| .op (.idxA 28 (.t 26) (.t 27) 1 0) none <| .op (.ld 29 28 1 false) none <| .op (.bin 30 .rem (.t 29) (.c ⟨.int .u8, ((7 : Int) : Int)⟩)) none <| .op (.cvt 31 (.int .u64) (.t 30)) none <| .op (.bin 32 .add (.t 25) (.t 31)) none <| .op (.mv 4 (.t 32)) none <| .nil)) <|
  (.seq (.pre [.keep [0, 3, 4, 5, 6, 7], .split 3 []] (.reg (.op (.bor 34 3) none <| .op (.mv 35 (.t 4)) none <| .op (.call (some 36) (rpc_Caller_Tick.sp n) [.l 34, .v (.t 35)]) none <| .op (.take 33 36) none <| .op (.ext 37 33 0) none <| .op (.ext 38 33 1) none <| .op (.alloc 8 ⟨TPacket, (((0 : Int), (0 : Int), (0 : Int), (0 : Int), (0 : Int), ([] : List Int), ()) : DPacket)⟩) none <| .op (.st 8 (.t 37) 6) none <| .op (.mv 9 (.t 38)) none <| .nil))) <|
  (.seq (.reg (.op (.mv 39 (.t 6)) none <| .op (.bin 40 .eql (.t 39) (.c ⟨.int .i64, ((0 : Int) : Int)⟩)) none <| .op (.mv 41 (.t 40)) none <| .grp 41 false (.op (.mv 42 (.t 4)) (some ([4, 41, 42], [42])) <| .op (.mv 43 (.t 5)) (some ([5, 41, 43], [43])) <| .op (.bin 44 .sub (.t 42) (.t 43)) (some ([41, 42, 43, 44], [44])) <| .op (.bin 45 .geq (.t 44) (.c ⟨.int .u64, ((4 : Int) : Int)⟩)) (some ([41, 44, 45], [45])) <| .nil) 45 46 [42, 43, 44, 45] <| .op (.mv 10 (.t 46)) none <| .nil)) <|
  (.seq (.aft (.seq (.reg (.op (.mv 47 (.t 9)) none <| .op (.mv 48 (.t 10)) none <| .op (.eqs 49 true (.t 47) (.t 48) .bool) none <| .nil)) <|
  (.cond (.t 49)
  (.seq (.pre [.keep []] (.reg (.op (.mv 2 (.c ⟨.bool, (false : Bool)⟩)) none <| .nil))) <|
  .ret)
  .skip)) [.coe 3 (.opt TCaller), .keep [0, 3, 4, 5, 6, 7, 9]]) X5))))) [.coe 3 (.opt TCaller), .keep [0, 3, 4, 5, 6, 7]]) X4)) [.keep [0, 3, 4, 5, 6, 7]])
noncomputable abbrev law11_RpcWaits.cb3 (n : Nat) : XC := law11_RpcWaits.db3 n (law11_RpcWaits.c4 n) (law11_RpcWaits.c5 n)
theorem law11_RpcWaits.q2_0_r (n : Nat) (X : XC)  : law11_RpcWaits.H2 n X [] = (ev X [] (⟨retK law11_RpcWaits.rs law11_RpcWaits.ps law11_RpcWaits.r, []⟩ : Ks law11_RpcWaits.R) (retK law11_RpcWaits.rs law11_RpcWaits.ps law11_RpcWaits.r) : Option law11_RpcWaits.R) := by kernel_rfl
theorem law11_RpcWaits.q2_0 (n : Nat)  : law11_RpcWaits.K2 n [] = law11_RpcWaits.j2 n  := (law11_RpcWaits.q2_0_r n (law11_RpcWaits.c2 n) ).trans (law11_RpcWaits.s2 n )
noncomputable def law11_RpcWaits.l3 (n : Nat) : Nat → (List Int) → (Option DCaller) → Int → Int → Int → Int → Option Bool
  | 0, _, _, _, _, _, _ => none
  | k + 1, x0, x3, x4, x5, x6, x7 =>
  (bif (decide (x7 < (x0.length : Int))) then (some (decide (x7 < (40 : Int)))) else some false).bind fun g1 =>
  bif g1 then (idxK x0 x7 fun e2 => nzK (7 : Int) (optM x3 ((rpc_Caller_Tick.f n none (IntKind.u64.wrap (x4 + (IntKind.u64.wrap (Int.tmod e2 (7 : Int)))))).bind fun r4 => (bif (decide (x6 = (0 : Int))) then some true else (some (decide ((4 : Int) ≤ (IntKind.u64.wrap ((IntKind.u64.wrap (x4 + (IntKind.u64.wrap (Int.tmod e2 (7 : Int))))) - x5)))))).bind fun g5 =>
  bif (!(bbeq r4.2.2.1 g5)) then (some false)
  else (law11_RpcWaits.j5 n (law11_RpcWaits.l3 n k) x0 none (IntKind.u64.wrap (x4 + (IntKind.u64.wrap (Int.tmod e2 (7 : Int))))) x5 x6 x7 r4.2.2.1)) fun p3 => (rpc_Caller_Tick.f n (some ((p3.1.1, p3.1.2.1, p3.1.2.2.1, p3.1.2.2.2.1, p3.1.2.2.2.2.1, p3.1.2.2.2.2.2.1, p3.1.2.2.2.2.2.2), p3.2.1, p3.2.2.1, p3.2.2.2.1, p3.2.2.2.2)) (IntKind.u64.wrap (x4 + (IntKind.u64.wrap (Int.tmod e2 (7 : Int)))))).bind fun r6 => (r6.1).bind fun p7 => (bif (decide (x6 = (0 : Int))) then some true else (some (decide ((4 : Int) ≤ (IntKind.u64.wrap ((IntKind.u64.wrap (x4 + (IntKind.u64.wrap (Int.tmod e2 (7 : Int))))) - x5)))))).bind fun g8 =>
  bif (!(bbeq r6.2.2.1 g8)) then (some false)
  else (law11_RpcWaits.j5 n (law11_RpcWaits.l3 n k) x0 (some ((p7.1.1, p7.1.2.1, p7.1.2.2.1, p7.1.2.2.2.1, p7.1.2.2.2.2.1, p7.1.2.2.2.2.2.1, p7.1.2.2.2.2.2.2), p7.2.1, p7.2.2.1, p7.2.2.2.1, p7.2.2.2.2)) (IntKind.u64.wrap (x4 + (IntKind.u64.wrap (Int.tmod e2 (7 : Int))))) x5 x6 x7 r6.2.2.1)))
  else (law11_RpcWaits.j2 n )
theorem law11_RpcWaits.wb3 (n : Nat) (Kr3 : St → Option law11_RpcWaits.R) (x0 : List Int) (x3 : Option DCaller) (x4 : Int) (x5 : Int) (x6 : Int) (x7 : Int) (K2 : St → Option law11_RpcWaits.R) (X4 X5 : XC) : ev (law11_RpcWaits.db3 n X4 X5) (keepSt [(0, some ⟨.slB .U false (.int .u8), x0⟩), (3, some ⟨.opt TCaller, x3⟩), (4, some ⟨.int .u64, x4⟩), (5, some ⟨.int .u64, x5⟩), (6, some ⟨.int .i64, x6⟩), (7, some ⟨.int .i64, x7⟩)] [0, 3, 4, 5, 6, 7]) (⟨retK law11_RpcWaits.rs law11_RpcWaits.ps law11_RpcWaits.r, [(0, K2)]⟩ : Ks law11_RpcWaits.R) Kr3 =
  ((bif (decide (x7 < (x0.length : Int))) then (some (decide (x7 < (40 : Int)))) else some false).bind fun g1 =>
  bif g1 then (idxK x0 x7 fun e2 => nzK (7 : Int) (optM x3 ((rpc_Caller_Tick.f n none (IntKind.u64.wrap (x4 + (IntKind.u64.wrap (Int.tmod e2 (7 : Int)))))).bind fun r4 => (bif (decide (x6 = (0 : Int))) then some true else (some (decide ((4 : Int) ≤ (IntKind.u64.wrap ((IntKind.u64.wrap (x4 + (IntKind.u64.wrap (Int.tmod e2 (7 : Int))))) - x5)))))).bind fun g5 =>
  bif (!(bbeq r4.2.2.1 g5)) then (some false)
  else (ev X5 [(0, some ⟨.slB .U false (.int .u8), x0⟩), (3, some ⟨.opt TCaller, (none : Option DCaller)⟩), (4, some ⟨.int .u64, (IntKind.u64.wrap (x4 + (IntKind.u64.wrap (Int.tmod e2 (7 : Int)))))⟩), (5, some ⟨.int .u64, x5⟩), (6, some ⟨.int .i64, x6⟩), (7, some ⟨.int .i64, x7⟩), (9, some ⟨.bool, r4.2.2.1⟩)] (⟨retK law11_RpcWaits.rs law11_RpcWaits.ps law11_RpcWaits.r, [(1, (law11_RpcWaits.H4 n K2 (law11_RpcWaits.Kb3 Kr3) X4)), (0, K2)]⟩ : Ks law11_RpcWaits.R) (law11_RpcWaits.H4 n K2 (law11_RpcWaits.Kb3 Kr3) X4))) fun p3 => (rpc_Caller_Tick.f n (some ((p3.1.1, p3.1.2.1, p3.1.2.2.1, p3.1.2.2.2.1, p3.1.2.2.2.2.1, p3.1.2.2.2.2.2.1, p3.1.2.2.2.2.2.2), p3.2.1, p3.2.2.1, p3.2.2.2.1, p3.2.2.2.2)) (IntKind.u64.wrap (x4 + (IntKind.u64.wrap (Int.tmod e2 (7 : Int)))))).bind fun r6 => (r6.1).bind fun p7 => (bif (decide (x6 = (0 : Int))) then some true else (some (decide ((4 : Int) ≤ (IntKind.u64.wrap ((IntKind.u64.wrap (x4 + (IntKind.u64.wrap (Int.tmod e2 (7 : Int))))) - x5)))))).bind fun g8 =>
  bif (!(bbeq r6.2.2.1 g8)) then (some false)
  else (ev X5 [(0, some ⟨.slB .U false (.int .u8), x0⟩), (3, some ⟨.opt TCaller, ((some ((p7.1.1, p7.1.2.1, p7.1.2.2.1, p7.1.2.2.2.1, p7.1.2.2.2.2.1, p7.1.2.2.2.2.2.1, p7.1.2.2.2.2.2.2), p7.2.1, p7.2.2.1, p7.2.2.2.1, p7.2.2.2.2)) : Option DCaller)⟩), (4, some ⟨.int .u64, (IntKind.u64.wrap (x4 + (IntKind.u64.wrap (Int.tmod e2 (7 : Int)))))⟩), (5, some ⟨.int .u64, x5⟩), (6, some ⟨.int .i64, x6⟩), (7, some ⟨.int .i64, x7⟩), (9, some ⟨.bool, r6.2.2.1⟩)] (⟨retK law11_RpcWaits.rs law11_RpcWaits.ps law11_RpcWaits.r, [(1, (law11_RpcWaits.H4 n K2 (law11_RpcWaits.Kb3 Kr3) X4)), (0, K2)]⟩ : Ks law11_RpcWaits.R) (law11_RpcWaits.H4 n K2 (law11_RpcWaits.Kb3 Kr3) X4))))
  else (K2 []) : Option law11_RpcWaits.R) := by kernel_rfl
theorem law11_RpcWaits.l3_ok (n : Nat) (k : Nat) : ∀ (x0 : List Int) (x3 : Option DCaller) (x4 : Int) (x5 : Int) (x6 : Int) (x7 : Int), loopEv [0, 3, 4, 5, 6, 7] (fun s K => ev (law11_RpcWaits.cb3 n) s (⟨retK law11_RpcWaits.rs law11_RpcWaits.ps law11_RpcWaits.r, [(0, (law11_RpcWaits.K2 n))]⟩ : Ks law11_RpcWaits.R) K) k [(0, some ⟨.slB .U false (.int .u8), x0⟩), (3, some ⟨.opt TCaller, x3⟩), (4, some ⟨.int .u64, x4⟩), (5, some ⟨.int .u64, x5⟩), (6, some ⟨.int .i64, x6⟩), (7, some ⟨.int .i64, x7⟩)] = law11_RpcWaits.l3 n k x0 x3 x4 x5 x6 x7 := by
  induction k with
  | zero => intros; rfl
  | succ k ih =>
    intro x0 x3 x4 x5 x6 x7
    exact (law11_RpcWaits.wb3 n (fun st => loopEv [0, 3, 4, 5, 6, 7] (fun s K => ev (law11_RpcWaits.cb3 n) s (⟨retK law11_RpcWaits.rs law11_RpcWaits.ps law11_RpcWaits.r, [(0, (law11_RpcWaits.K2 n))]⟩ : Ks law11_RpcWaits.R) K) k st) x0 x3 x4 x5 x6 x7 (law11_RpcWaits.K2 n) (law11_RpcWaits.c4 n) (law11_RpcWaits.c5 n)).trans (by simp only [law11_RpcWaits.l3, law11_RpcWaits.s5 n (fun st => loopEv [0, 3, 4, 5, 6, 7] (fun s K => ev (law11_RpcWaits.cb3 n) s (⟨retK law11_RpcWaits.rs law11_RpcWaits.ps law11_RpcWaits.r, [(0, (law11_RpcWaits.K2 n))]⟩ : Ks law11_RpcWaits.R) K) k st) (law11_RpcWaits.l3 n k) ih, law11_RpcWaits.q2_0 n] <;> kernel_rfl)
noncomputable def law11_RpcWaits.d1 (n : Nat) (X2 Y3 : XC) : XC :=
  (.seq (.reg (.op (.mv 4 (.c ⟨.int .u64, ((0 : Int) : Int)⟩)) none <| .op (.mv 5 (.c ⟨.int .u64, ((0 : Int) : Int)⟩)) none <| .nil)) <|
  (.seq (.reg (.op (.mv 6 (.c ⟨.int .i64, ((0 : Int) : Int)⟩)) none <| .nil)) <|
  (.seq (.aft (.seq (.reg (.op (.mv 7 (.c ⟨.int .i64, ((0 : Int) : Int)⟩)) none <| .nil)) <|
  (.block 0 (.pre [.keep [0, 3, 4, 5, 6, 7]] (.loop n [0, 3, 4, 5, 6, 7] Y3)))) [.keep []]) X2)))
noncomputable abbrev law11_RpcWaits.c1 (n : Nat) : XC := law11_RpcWaits.d1 n (law11_RpcWaits.c2 n) (law11_RpcWaits.cb3 n)
noncomputable def law11_RpcWaits.j1 (n : Nat) (x0 : List Int) (x3 : Option DCaller) : Option Bool :=
  law11_RpcWaits.l3 n n x0 x3 (0 : Int) (0 : Int) (0 : Int) (0 : Int)
theorem law11_RpcWaits.w1 (n : Nat) (x0 : List Int) (x3 : Option DCaller) (X2 Y3 : XC) : ev (law11_RpcWaits.d1 n X2 Y3) [(0, some ⟨.slB .U false (.int .u8), x0⟩), (3, some ⟨.opt TCaller, x3⟩)] (⟨retK law11_RpcWaits.rs law11_RpcWaits.ps law11_RpcWaits.r, []⟩ : Ks law11_RpcWaits.R) (retK law11_RpcWaits.rs law11_RpcWaits.ps law11_RpcWaits.r) =
  (loopEv [0, 3, 4, 5, 6, 7] (fun s K => ev Y3 s (⟨retK law11_RpcWaits.rs law11_RpcWaits.ps law11_RpcWaits.r, [(0, (law11_RpcWaits.H2 n X2))]⟩ : Ks law11_RpcWaits.R) K) n [(0, some ⟨.slB .U false (.int .u8), x0⟩), (3, some ⟨.opt TCaller, x3⟩), (4, some ⟨.int .u64, (0 : Int)⟩), (5, some ⟨.int .u64, (0 : Int)⟩), (6, some ⟨.int .i64, (0 : Int)⟩), (7, some ⟨.int .i64, (0 : Int)⟩)] : Option law11_RpcWaits.R) := by kernel_rfl
theorem law11_RpcWaits.s1 (n : Nat) (x0 : List Int) (x3 : Option DCaller) : ev (law11_RpcWaits.c1 n) [(0, some ⟨.slB .U false (.int .u8), x0⟩), (3, some ⟨.opt TCaller, x3⟩)] (⟨retK law11_RpcWaits.rs law11_RpcWaits.ps law11_RpcWaits.r, []⟩ : Ks law11_RpcWaits.R) (retK law11_RpcWaits.rs law11_RpcWaits.ps law11_RpcWaits.r) = law11_RpcWaits.j1 n x0 x3 := (law11_RpcWaits.w1 n x0 x3 (law11_RpcWaits.c2 n) (law11_RpcWaits.cb3 n)).trans (by simp only [law11_RpcWaits.j1, law11_RpcWaits.l3_ok n] <;> kernel_rfl)
noncomputable def law11_RpcWaits.H1 (n : Nat) (X : XC) : St → Option law11_RpcWaits.R := fun st => ghK [.coe 3 (.opt TCaller), .keep [0, 3]] st fun st => ev X st (⟨retK law11_RpcWaits.rs law11_RpcWaits.ps law11_RpcWaits.r, []⟩ : Ks law11_RpcWaits.R) (retK law11_RpcWaits.rs law11_RpcWaits.ps law11_RpcWaits.r)
noncomputable abbrev law11_RpcWaits.K1 (n : Nat) : St → Option law11_RpcWaits.R := law11_RpcWaits.H1 n (law11_RpcWaits.c1 n)
noncomputable def law11_RpcWaits.d (n : Nat) (X1 : XC) : XC :=
  (.seq (.reg (.op (.mv 2 (.c ⟨.bool, (false : Bool)⟩)) none <| .nil)) <|
  (.seq (.reg (.op (.call (some 11) (rpc_NewCaller.sp n) [.v (.c ⟨.int .u8, ((3 : Int) : Int)⟩), .v (.c ⟨.int .u32, ((1 : Int) : Int)⟩)]) none <| .op (.take 3 11) none <| .nil)) <|
  (.seq (.aft (.seq (.pre [.split 3 []] (.reg (.op (.bor 12 3) none <| .op (.call (some 13) (rpc_Caller_Call.sp n) [.l 12, .v (.c ⟨.str, (([120] : List Int) : List Int)⟩)]) none <| .op (.bin 14 .neq (.t 13) (.c ⟨.int .i64, ((0 : Int) : Int)⟩)) none <| .nil))) <|
  (.cond (.t 14)
  (.seq (.reg (.op (.mv 2 (.c ⟨.bool, (false : Bool)⟩)) none <| .nil)) <|
  .ret)
  .skip)) [.coe 3 (.opt TCaller), .keep [0, 3]]) X1)))
noncomputable abbrev law11_RpcWaits.c (n : Nat) : XC := law11_RpcWaits.d n (law11_RpcWaits.c1 n)
noncomputable def law11_RpcWaits.f (n : Nat) (a0 : List Int) : Option Bool :=
  (rpc_NewCaller.f n (3 : Int) (1 : Int)).bind fun r1 => optM r1 ((rpc_Caller_Call.f n none ([120] : List Int)).bind fun r3 => bif (!decide (r3.2 = (0 : Int))) then (some false)
  else (law11_RpcWaits.j1 n a0 none)) fun p2 => (rpc_Caller_Call.f n (some ((p2.1.1, p2.1.2.1, p2.1.2.2.1, p2.1.2.2.2.1, p2.1.2.2.2.2.1, p2.1.2.2.2.2.2.1, p2.1.2.2.2.2.2.2), p2.2.1, p2.2.2.1, p2.2.2.2.1, p2.2.2.2.2)) ([120] : List Int)).bind fun r4 => (r4.1).bind fun p5 => bif (!decide (r4.2 = (0 : Int))) then (some false)
  else (law11_RpcWaits.j1 n a0 (some ((p5.1.1, p5.1.2.1, p5.1.2.2.1, p5.1.2.2.2.1, p5.1.2.2.2.2.1, p5.1.2.2.2.2.2.1, p5.1.2.2.2.2.2.2), p5.2.1, p5.2.2.1, p5.2.2.2.1, p5.2.2.2.2)))
theorem law11_RpcWaits.w (n : Nat) (a0 : List Int) (X1 : XC) : evFn (law11_RpcWaits.d n X1) law11_RpcWaits.rs law11_RpcWaits.ps law11_RpcWaits.r (a0, ()) =
  ((rpc_NewCaller.f n (3 : Int) (1 : Int)).bind fun r1 => optM r1 ((rpc_Caller_Call.f n none ([120] : List Int)).bind fun r3 => bif (!decide (r3.2 = (0 : Int))) then (some false)
  else (ev X1 [(0, some ⟨.slB .U false (.int .u8), a0⟩), (3, some ⟨.opt TCaller, (none : Option DCaller)⟩)] (⟨retK law11_RpcWaits.rs law11_RpcWaits.ps law11_RpcWaits.r, []⟩ : Ks law11_RpcWaits.R) (retK law11_RpcWaits.rs law11_RpcWaits.ps law11_RpcWaits.r))) fun p2 => (rpc_Caller_Call.f n (some ((p2.1.1, p2.1.2.1, p2.1.2.2.1, p2.1.2.2.2.1, p2.1.2.2.2.2.1, p2.1.2.2.2.2.2.1, p2.1.2.2.2.2.2.2), p2.2.1, p2.2.2.1, p2.2.2.2.1, p2.2.2.2.2)) ([120] : List Int)).bind fun r4 => (r4.1).bind fun p5 => bif (!decide (r4.2 = (0 : Int))) then (some false)
  else (ev X1 [(0, some ⟨.slB .U false (.int .u8), a0⟩), (3, some ⟨.opt TCaller, ((some ((p5.1.1, p5.1.2.1, p5.1.2.2.1, p5.1.2.2.2.1, p5.1.2.2.2.2.1, p5.1.2.2.2.2.2.1, p5.1.2.2.2.2.2.2), p5.2.1, p5.2.2.1, p5.2.2.2.1, p5.2.2.2.2)) : Option DCaller)⟩)] (⟨retK law11_RpcWaits.rs law11_RpcWaits.ps law11_RpcWaits.r, []⟩ : Ks law11_RpcWaits.R) (retK law11_RpcWaits.rs law11_RpcWaits.ps law11_RpcWaits.r)) : Option law11_RpcWaits.R) := by kernel_rfl
theorem law11_RpcWaits.ok (n : Nat) (a0 : List Int) : evFn (law11_RpcWaits.c n) law11_RpcWaits.rs law11_RpcWaits.ps law11_RpcWaits.r (a0, ()) = law11_RpcWaits.f n a0 := (law11_RpcWaits.w n a0 (law11_RpcWaits.c1 n)).trans (by simp only [law11_RpcWaits.f, law11_RpcWaits.s1 n] <;> kernel_rfl)
noncomputable def law11_RpcWaits.sp (n : Nat) : FSpec := { f := 4, ps := law11_RpcWaits.ps, r := law11_RpcWaits.r, run := fun x => law11_RpcWaits.f n x.1 }
theorem law11_RpcWaits.calls (n : Nat) : (law11_RpcWaits.c n).calls = [rpc_NewCaller.sp n, rpc_Caller_Call.sp n, rpc_Caller_Tick.sp n, rpc_Caller_Down.sp n, rpc_Caller_Busy.sp n, law11_live.sp n] := by kernel_rfl
theorem law11_RpcWaits.fits (n : Nat) : fnB tab hd Try.f4 (law11_RpcWaits.c n) law11_RpcWaits.rs (law11_RpcWaits.sp n).ps (law11_RpcWaits.sp n).r = true := by kernel_rfl
theorem law11_RpcWaits.sound (n : Nat) : Sound Try.prog (law11_RpcWaits.sp n) := by
  refine fnB_sound tabOk eqFacts mixed (fn := Try.f4) (c := law11_RpcWaits.c n) (rs := law11_RpcWaits.rs) (by kernel_rfl) ?_ (law11_RpcWaits.fits n) ?_
  · rw [law11_RpcWaits.calls]
    intro s hs
    simp only [List.mem_cons, List.not_mem_nil, or_false] at hs
    rcases hs with rfl | rfl | rfl | rfl | rfl | rfl
    · exact rpc_NewCaller.sound n
    · exact rpc_Caller_Call.sound n
    · exact rpc_Caller_Tick.sound n
    · exact rpc_Caller_Down.sound n
    · exact rpc_Caller_Busy.sound n
    · exact law11_live.sound n
  · rintro ⟨a0, ⟨⟩⟩ y h
    exact (law11_RpcWaits.ok n a0).trans h
/-! (*backwater/rpc.Caller).Cancel -/
abbrev rpc_Caller_Cancel.ps : List (Ty × Bool) := [(.opt TCaller, true)]
abbrev rpc_Caller_Cancel.r : Ty := .int .i64
abbrev rpc_Caller_Cancel.rs : List RV := [.t 2]
abbrev rpc_Caller_Cancel.R : Type := (rtOf rpc_Caller_Cancel.ps rpc_Caller_Cancel.r).den
noncomputable def rpc_Caller_Cancel.d (n : Nat) : XC :=
  (.seq (.reg (.op (.mv 2 (.c ⟨.int .i64, ((0 : Int) : Int)⟩)) none <| .nil)) <|
  (.seq (.seq (.pre [.split 0 []] (.reg (.op (.bor 3 0) none <| .op (.eqnil 4 (.t 3) false false) none <| .nil))) <|
  (.cond (.t 4)
  (.seq (.reg (.op (.mv 2 (.c ⟨.int .i64, ((1 : Int) : Int)⟩)) none <| .nil)) <|
  .ret)
  .skip)) <|
  (.seq (.seq (.reg (.op (.bor 5 0) none <| .op (.nilchk 6 (.t 5)) none <| .op (.fa 7 6 1 6) none <| .op (.ld 8 7 1 false) none <| .op (.un 9 .not (.t 8)) none <| .nil)) <|
  (.cond (.t 9)
  (.seq (.reg (.op (.mv 2 (.c ⟨.int .i64, ((5 : Int) : Int)⟩)) none <| .nil)) <|
  .ret)
  .skip)) <|
  (.seq (.reg (.op (.bor 10 0) none <| .op (.nilchk 11 (.t 10)) none <| .op (.fa 12 11 1 6) none <| .op (.st 12 (.c ⟨.bool, (false : Bool)⟩) 1) none <| .nil)) <|
  (.seq (.pre [.keep [0]] (.reg (.op (.mv 2 (.c ⟨.int .i64, ((0 : Int) : Int)⟩)) none <| .nil))) <|
  .ret)))))
noncomputable abbrev rpc_Caller_Cancel.c (n : Nat) : XC := rpc_Caller_Cancel.d n
noncomputable def rpc_Caller_Cancel.f (n : Nat) (a0 : Option DCaller) : Option ((Option DCaller) × Int) :=
  optM a0 (some (none, (1 : Int))) fun p1 => bif (!p1.2.1) then (some ((some ((p1.1.1, p1.1.2.1, p1.1.2.2.1, p1.1.2.2.2.1, p1.1.2.2.2.2.1, p1.1.2.2.2.2.2.1, p1.1.2.2.2.2.2.2), p1.2.1, p1.2.2.1, p1.2.2.2.1, p1.2.2.2.2)), (5 : Int)))
  else (some ((some ((p1.1.1, p1.1.2.1, p1.1.2.2.1, p1.1.2.2.2.1, p1.1.2.2.2.2.1, p1.1.2.2.2.2.2.1, p1.1.2.2.2.2.2.2), false, p1.2.2.1, p1.2.2.2.1, p1.2.2.2.2)), (0 : Int)))
theorem rpc_Caller_Cancel.ok (n : Nat) (a0 : Option DCaller) : evFn (rpc_Caller_Cancel.c n) rpc_Caller_Cancel.rs rpc_Caller_Cancel.ps rpc_Caller_Cancel.r (a0, ()) = rpc_Caller_Cancel.f n a0 := by kernel_rfl
noncomputable def rpc_Caller_Cancel.sp (n : Nat) : FSpec := { f := 19, ps := rpc_Caller_Cancel.ps, r := rpc_Caller_Cancel.r, run := fun x => rpc_Caller_Cancel.f n x.1 }
theorem rpc_Caller_Cancel.calls (n : Nat) : (rpc_Caller_Cancel.c n).calls = [] := by kernel_rfl
theorem rpc_Caller_Cancel.fits (n : Nat) : fnB tab hd Try.f19 (rpc_Caller_Cancel.c n) rpc_Caller_Cancel.rs (rpc_Caller_Cancel.sp n).ps (rpc_Caller_Cancel.sp n).r = true := by kernel_rfl
theorem rpc_Caller_Cancel.sound (n : Nat) : Sound Try.prog (rpc_Caller_Cancel.sp n) := by
  refine fnB_sound tabOk eqFacts mixed (fn := Try.f19) (c := rpc_Caller_Cancel.c n) (rs := rpc_Caller_Cancel.rs) (by kernel_rfl) ?_ (rpc_Caller_Cancel.fits n) ?_
  · rw [rpc_Caller_Cancel.calls]
    intro s hs; cases hs
  · rintro ⟨a0, ⟨⟩⟩ y h
    exact (rpc_Caller_Cancel.ok n a0).trans h
/-! (*backwater/rpc.Caller).Fork -/
abbrev rpc_Caller_Fork.ps : List (Ty × Bool) := [(.oref TCaller, false)]
abbrev rpc_Caller_Fork.r : Ty := .opt TCaller
abbrev rpc_Caller_Fork.rs : List RV := [.t 2]
abbrev rpc_Caller_Fork.R : Type := (rtOf rpc_Caller_Fork.ps rpc_Caller_Fork.r).den
noncomputable def rpc_Caller_Fork.d (n : Nat) : XC :=
  (.seq (.reg (.op (.mv 2 (.c ⟨.nil 1, ()⟩)) none <| .nil)) <|
  (.seq (.seq (.reg (.op (.mv 4 (.t 0)) none <| .op (.eqnil 5 (.t 4) false false) none <| .nil)) <|
  (.cond (.t 5)
  (.seq (.reg (.op (.mv 2 (.c ⟨.nil 1, ()⟩)) none <| .nil)) <|
  .ret)
  .skip)) <|
  (.seq (.reg (.op (.mv 6 (.t 0)) none <| .op (.nilchk 7 (.t 6)) none <| .op (.ld 8 7 9 true) none <| .op (.alloc 3 ⟨TCaller, ((((0 : Int), (0 : Int), (0 : Int), (0 : Int), (0 : Int), ([] : List Int), ()), false, (0 : Int), (0 : Int), ()) : DCaller)⟩) none <| .op (.st 3 (.t 8) 9) none <| .nil)) <|
  (.seq (.reg (.op (.take 2 3) none <| .nil)) <|
  .ret))))
noncomputable abbrev rpc_Caller_Fork.c (n : Nat) : XC := rpc_Caller_Fork.d n
noncomputable def rpc_Caller_Fork.f (n : Nat) (a0 : Option DCaller) : Option (Option DCaller) :=
  bif (Option.isNone a0) then (some none)
  else (optM a0 none fun p1 => some (some ((p1.1.1, p1.1.2.1, p1.1.2.2.1, p1.1.2.2.2.1, p1.1.2.2.2.2.1, p1.1.2.2.2.2.2.1, p1.1.2.2.2.2.2.2), p1.2.1, p1.2.2.1, p1.2.2.2.1, p1.2.2.2.2)))
theorem rpc_Caller_Fork.ok (n : Nat) (a0 : Option DCaller) : evFn (rpc_Caller_Fork.c n) rpc_Caller_Fork.rs rpc_Caller_Fork.ps rpc_Caller_Fork.r (a0, ()) = rpc_Caller_Fork.f n a0 := by kernel_rfl
noncomputable def rpc_Caller_Fork.sp (n : Nat) : FSpec := { f := 24, ps := rpc_Caller_Fork.ps, r := rpc_Caller_Fork.r, run := fun x => rpc_Caller_Fork.f n x.1 }
theorem rpc_Caller_Fork.calls (n : Nat) : (rpc_Caller_Fork.c n).calls = [] := by kernel_rfl
theorem rpc_Caller_Fork.fits (n : Nat) : fnB tab hd Try.f24 (rpc_Caller_Fork.c n) rpc_Caller_Fork.rs (rpc_Caller_Fork.sp n).ps (rpc_Caller_Fork.sp n).r = true := by kernel_rfl
theorem rpc_Caller_Fork.sound (n : Nat) : Sound Try.prog (rpc_Caller_Fork.sp n) := by
  refine fnB_sound tabOk eqFacts mixed (fn := Try.f24) (c := rpc_Caller_Fork.c n) (rs := rpc_Caller_Fork.rs) (by kernel_rfl) ?_ (rpc_Caller_Fork.fits n) ?_
  · rw [rpc_Caller_Fork.calls]
    intro s hs; cases hs
  · rintro ⟨a0, ⟨⟩⟩ y h
    exact (rpc_Caller_Fork.ok n a0).trans h
/-! backwater/rpc.put -/
abbrev rpc_put.ps : List (Ty × Bool) := [(.slX .U (.int .u8), false), (.int .u32, false)]
abbrev rpc_put.r : Ty := .slX .U (.int .u8)
abbrev rpc_put.rs : List RV := [.t 4]
abbrev rpc_put.R : Type := (rtOf rpc_put.ps rpc_put.r).den
noncomputable def rpc_put.d (n : Nat) : XC :=
  (.seq (.reg (.op (.mv 4 (.c ⟨.nil 0, ()⟩)) none <| .nil)) <|
  (.seq (.reg (.op (.take 5 0) none <| .op (.mv 6 (.t 1)) none <| .op (.bin 7 .shr (.t 6) (.c ⟨.int .u64, ((24 : Int) : Int)⟩)) none <| .op (.cvt 8 (.int .u8) (.t 7)) none <| .op (.mv 9 (.t 1)) none <| .op (.bin 10 .shr (.t 9) (.c ⟨.int .u64, ((16 : Int) : Int)⟩)) none <| .op (.cvt 11 (.int .u8) (.t 10)) none <| .op (.mv 12 (.t 1)) none <| .op (.bin 13 .shr (.t 12) (.c ⟨.int .u64, ((8 : Int) : Int)⟩)) none <| .op (.cvt 14 (.int .u8) (.t 13)) none <| .op (.mv 15 (.t 1)) none <| .op (.cvt 16 (.int .u8) (.t 15)) none <| .op (.bsl 17 (.int .u8) [(.t 8), (.t 11), (.t 14), (.t 16)]) none <| .op (.app 18 5 (.t 17) 1 1) none <| .op (.take 4 18) none <| .nil)) <|
  .ret))
noncomputable abbrev rpc_put.c (n : Nat) : XC := rpc_put.d n
noncomputable def rpc_put.f (n : Nat) (a0 : List Int) (a1 : Int) : Option (List Int) :=
  geK (24 : Int) (geK (16 : Int) (geK (8 : Int) (appK a0.length ([(IntKind.u8.wrap (ishr IntKind.u32 a1 ((24 : Int)).toNat)), (IntKind.u8.wrap (ishr IntKind.u32 a1 ((16 : Int)).toNat)), (IntKind.u8.wrap (ishr IntKind.u32 a1 ((8 : Int)).toNat)), (IntKind.u8.wrap a1)] : List Int).length 1 (some (a0 ++ ([(IntKind.u8.wrap (ishr IntKind.u32 a1 ((24 : Int)).toNat)), (IntKind.u8.wrap (ishr IntKind.u32 a1 ((16 : Int)).toNat)), (IntKind.u8.wrap (ishr IntKind.u32 a1 ((8 : Int)).toNat)), (IntKind.u8.wrap a1)] : List Int))))))
theorem rpc_put.ok (n : Nat) (a0 : List Int) (a1 : Int) : evFn (rpc_put.c n) rpc_put.rs rpc_put.ps rpc_put.r (a0, a1, ()) = rpc_put.f n a0 a1 := by kernel_rfl
noncomputable def rpc_put.sp (n : Nat) : FSpec := { f := 43, ps := rpc_put.ps, r := rpc_put.r, run := fun x => rpc_put.f n x.1 x.2.1 }
theorem rpc_put.calls (n : Nat) : (rpc_put.c n).calls = [] := by kernel_rfl
theorem rpc_put.fits (n : Nat) : fnB tab hd Try.f43 (rpc_put.c n) rpc_put.rs (rpc_put.sp n).ps (rpc_put.sp n).r = true := by kernel_rfl
theorem rpc_put.sound (n : Nat) : Sound Try.prog (rpc_put.sp n) := by
  refine fnB_sound tabOk eqFacts mixed (fn := Try.f43) (c := rpc_put.c n) (rs := rpc_put.rs) (by kernel_rfl) ?_ (rpc_put.fits n) ?_
  · rw [rpc_put.calls]
    intro s hs; cases hs
  · rintro ⟨a0, a1, ⟨⟩⟩ y h
    exact (rpc_put.ok n a0 a1).trans h
/-! (*backwater/rpc.Callee).Bytes -/
abbrev rpc_Callee_Bytes.ps : List (Ty × Bool) := [(.oref TCallee, false)]
abbrev rpc_Callee_Bytes.r : Ty := .slX .U (.int .u8)
abbrev rpc_Callee_Bytes.rs : List RV := [.t 2]
abbrev rpc_Callee_Bytes.R : Type := (rtOf rpc_Callee_Bytes.ps rpc_Callee_Bytes.r).den
noncomputable def rpc_Callee_Bytes.d1 (n : Nat) : XC :=
  (.seq (.reg (.op (.take 49 3) none <| .op (.take 2 49) none <| .nil)) <|
  .ret)
noncomputable abbrev rpc_Callee_Bytes.c1 (n : Nat) : XC := rpc_Callee_Bytes.d1 n
noncomputable def rpc_Callee_Bytes.j1 (n : Nat) (x3 : List Int) : Option (List Int) :=
  some x3
theorem rpc_Callee_Bytes.s1 (n : Nat) (x3 : List Int) : ev (rpc_Callee_Bytes.c1 n) [(3, some ⟨.slX .U (.int .u8), x3⟩)] (⟨retK rpc_Callee_Bytes.rs rpc_Callee_Bytes.ps rpc_Callee_Bytes.r, []⟩ : Ks rpc_Callee_Bytes.R) (retK rpc_Callee_Bytes.rs rpc_Callee_Bytes.ps rpc_Callee_Bytes.r) = rpc_Callee_Bytes.j1 n x3 := by kernel_rfl
noncomputable def rpc_Callee_Bytes.H1 (n : Nat) (X : XC) : St → Option rpc_Callee_Bytes.R := fun st => ghK [.keep [3]] st fun st => ev X st (⟨retK rpc_Callee_Bytes.rs rpc_Callee_Bytes.ps rpc_Callee_Bytes.r, []⟩ : Ks rpc_Callee_Bytes.R) (retK rpc_Callee_Bytes.rs rpc_Callee_Bytes.ps rpc_Callee_Bytes.r)
noncomputable abbrev rpc_Callee_Bytes.K1 (n : Nat) : St → Option rpc_Callee_Bytes.R := rpc_Callee_Bytes.H1 n (rpc_Callee_Bytes.c1 n)
noncomputable def rpc_Callee_Bytes.Kb2 (Kr2 : St → Option rpc_Callee_Bytes.R) : St → Option rpc_Callee_Bytes.R := fun st => ghK [.keep [3, 11, 12]] st Kr2
noncomputable def rpc_Callee_Bytes.d3 (n : Nat) : XC :=
  (.aft (.reg (.op (.bin 48 .add (.t 12) (.c ⟨.int .i64, ((1 : Int) : Int)⟩)) none <| .op (.mv 12 (.t 48)) none <| .nil)) [.keep [3, 11, 12]])
noncomputable abbrev rpc_Callee_Bytes.c3 (n : Nat) : XC := rpc_Callee_Bytes.d3 n
theorem rpc_Callee_Bytes.qb2_0 (Kr2 : St → Option rpc_Callee_Bytes.R) (kr2 : (List Int) → (List Dpast) → Int → Option (List Int)) (hK2 : ∀ (x3 : List Int) (x11 : List Dpast) (x12 : Int), Kr2 [(3, some ⟨.slX .U (.int .u8), x3⟩), (11, some ⟨.arr 3 Tpast, x11⟩), (12, some ⟨.int .i64, x12⟩)] = kr2 x3 x11 x12) (x3 : List Int) (x11 : List Dpast) (x12 : Int) : rpc_Callee_Bytes.Kb2 Kr2 [(3, some ⟨.slX .U (.int .u8), x3⟩), (11, some ⟨.arr 3 Tpast, x11⟩), (12, some ⟨.int .i64, x12⟩)] = kr2 x3 x11 x12 := (by kernel_rfl : _ = Kr2 [(3, some ⟨.slX .U (.int .u8), x3⟩), (11, some ⟨.arr 3 Tpast, x11⟩), (12, some ⟨.int .i64, x12⟩)]).trans (hK2 x3 x11 x12)
noncomputable def rpc_Callee_Bytes.j3 (n : Nat) (kr2 : (List Int) → (List Dpast) → Int → Option (List Int)) (x3 : List Int) (x11 : List Dpast) (x12 : Int) : Option (List Int) :=
  kr2 x3 x11 (IntKind.i64.wrap (x12 + (1 : Int)))
theorem rpc_Callee_Bytes.w3 (n : Nat) (Kr2 : St → Option rpc_Callee_Bytes.R) (x3 : List Int) (x11 : List Dpast) (x12 : Int) (K1 : St → Option rpc_Callee_Bytes.R) (Kb2 : St → Option rpc_Callee_Bytes.R) : ev (rpc_Callee_Bytes.d3 n) [(3, some ⟨.slX .U (.int .u8), x3⟩), (11, some ⟨.arr 3 Tpast, x11⟩), (12, some ⟨.int .i64, x12⟩)] (⟨retK rpc_Callee_Bytes.rs rpc_Callee_Bytes.ps rpc_Callee_Bytes.r, [(0, K1)]⟩ : Ks rpc_Callee_Bytes.R) Kb2 =
  (Kb2 [(3, some ⟨.slX .U (.int .u8), x3⟩), (11, some ⟨.arr 3 Tpast, x11⟩), (12, some ⟨.int .i64, (IntKind.i64.wrap (x12 + (1 : Int)))⟩)] : Option rpc_Callee_Bytes.R) := by kernel_rfl
theorem rpc_Callee_Bytes.s3 (n : Nat) (Kr2 : St → Option rpc_Callee_Bytes.R) (kr2 : (List Int) → (List Dpast) → Int → Option (List Int)) (hK2 : ∀ (x3 : List Int) (x11 : List Dpast) (x12 : Int), Kr2 [(3, some ⟨.slX .U (.int .u8), x3⟩), (11, some ⟨.arr 3 Tpast, x11⟩), (12, some ⟨.int .i64, x12⟩)] = kr2 x3 x11 x12) (x3 : List Int) (x11 : List Dpast) (x12 : Int) : ev (rpc_Callee_Bytes.c3 n) [(3, some ⟨.slX .U (.int .u8), x3⟩), (11, some ⟨.arr 3 Tpast, x11⟩), (12, some ⟨.int .i64, x12⟩)] (⟨retK rpc_Callee_Bytes.rs rpc_Callee_Bytes.ps rpc_Callee_Bytes.r, [(0, (rpc_Callee_Bytes.K1 n))]⟩ : Ks rpc_Callee_Bytes.R) (rpc_Callee_Bytes.Kb2 Kr2) = rpc_Callee_Bytes.j3 n kr2 x3 x11 x12 := (rpc_Callee_Bytes.w3 n Kr2 x3 x11 x12 (rpc_Callee_Bytes.K1 n) (rpc_Callee_Bytes.Kb2 Kr2)).trans (by simp only [rpc_Callee_Bytes.j3, rpc_Callee_Bytes.qb2_0 Kr2 kr2 hK2] <;> kernel_rfl)
noncomputable def rpc_Callee_Bytes.H3 (n : Nat) (K1 : St → Option rpc_Callee_Bytes.R) (Kb2 : St → Option rpc_Callee_Bytes.R) (X : XC) : St → Option rpc_Callee_Bytes.R := fun st => ghK [.keep [3, 11, 12]] st fun st => ev X st (⟨retK rpc_Callee_Bytes.rs rpc_Callee_Bytes.ps rpc_Callee_Bytes.r, [(0, K1)]⟩ : Ks rpc_Callee_Bytes.R) Kb2
noncomputable abbrev rpc_Callee_Bytes.K3 (n : Nat) (Kr2 : St → Option rpc_Callee_Bytes.R) : St → Option rpc_Callee_Bytes.R := rpc_Callee_Bytes.H3 n (rpc_Callee_Bytes.K1 n) (rpc_Callee_Bytes.Kb2 Kr2) (rpc_Callee_Bytes.c3 n)
noncomputable def rpc_Callee_Bytes.d4 (n : Nat) : XC :=
  (.aft (.seq (.reg (.op (.fa 30 5 0 0) none <| .op (.ld 31 30 1 false) none <| .op (.bin 32 .eql (.t 31) (.c ⟨.int .u8, ((2 : Int) : Int)⟩)) none <| .nil)) <|
  (.cond (.t 32)
  (.regD (.op (.take 33 3) (some ([3, 33], [3, 33])) <| .op (.fa 34 5 3 3) (some ([5, 34], [34])) <| .op (.ld 35 34 1 false) (some ([5, 34, 35], [35])) <| .op (.len 36 (.t 35) true) (some ([35, 36], [36])) <| .op (.bin 37 .shr (.t 36) (.c ⟨.int .u64, ((8 : Int) : Int)⟩)) (some ([36, 37], [37])) <| .op (.cvt 38 (.int .u8) (.t 37)) (some ([37, 38], [38])) <| .op (.fa 39 5 3 3) (some ([5, 39], [39])) <| .op (.ld 40 39 1 false) (some ([5, 39, 40], [40])) <| .op (.len 41 (.t 40) true) (some ([40, 41], [41])) <| .op (.cvt 42 (.int .u8) (.t 41)) (some ([41, 42], [42])) <| .op (.bsl 43 (.int .u8) [(.t 38), (.t 42)]) (some ([38, 42, 43], [43])) <| .op (.app 44 33 (.t 43) 1 1) (some ([33, 43, 44], [33, 44])) <| .op (.fa 45 5 3 3) (some ([5, 45], [45])) <| .op (.ld 46 45 1 false) (some ([5, 45, 46], [46])) <| .op (.app 47 44 (.t 46) 1 1) (some ([44, 46, 47], [44, 47])) <| .op (.take 3 47) (some ([3, 47], [3, 47])) <| .nil))
  .skip)) [.keep [3, 11, 12]])
noncomputable abbrev rpc_Callee_Bytes.c4 (n : Nat) : XC := rpc_Callee_Bytes.d4 n
theorem rpc_Callee_Bytes.q3_0_r (n : Nat) (Kr2 : St → Option rpc_Callee_Bytes.R) (K1 : St → Option rpc_Callee_Bytes.R) (Kb2 : St → Option rpc_Callee_Bytes.R) (X : XC) (x3 : List Int) (x11 : List Dpast) (x12 : Int) : rpc_Callee_Bytes.H3 n K1 Kb2 X [(3, some ⟨.slX .U (.int .u8), x3⟩), (11, some ⟨.arr 3 Tpast, x11⟩), (12, some ⟨.int .i64, x12⟩)] = (ev X [(3, some ⟨.slX .U (.int .u8), x3⟩), (11, some ⟨.arr 3 Tpast, x11⟩), (12, some ⟨.int .i64, x12⟩)] (⟨retK rpc_Callee_Bytes.rs rpc_Callee_Bytes.ps rpc_Callee_Bytes.r, [(0, K1)]⟩ : Ks rpc_Callee_Bytes.R) Kb2 : Option rpc_Callee_Bytes.R) := by kernel_rfl
theorem rpc_Callee_Bytes.q3_0 (n : Nat) (Kr2 : St → Option rpc_Callee_Bytes.R) (kr2 : (List Int) → (List Dpast) → Int → Option (List Int)) (hK2 : ∀ (x3 : List Int) (x11 : List Dpast) (x12 : Int), Kr2 [(3, some ⟨.slX .U (.int .u8), x3⟩), (11, some ⟨.arr 3 Tpast, x11⟩), (12, some ⟨.int .i64, x12⟩)] = kr2 x3 x11 x12) (x3 : List Int) (x11 : List Dpast) (x12 : Int) : rpc_Callee_Bytes.K3 n Kr2 [(3, some ⟨.slX .U (.int .u8), x3⟩), (11, some ⟨.arr 3 Tpast, x11⟩), (12, some ⟨.int .i64, x12⟩)] = rpc_Callee_Bytes.j3 n kr2 x3 x11 x12 := (rpc_Callee_Bytes.q3_0_r n Kr2 (rpc_Callee_Bytes.K1 n) (rpc_Callee_Bytes.Kb2 Kr2) (rpc_Callee_Bytes.c3 n) x3 x11 x12).trans (rpc_Callee_Bytes.s3 n Kr2 kr2 hK2 x3 x11 x12)
noncomputable def rpc_Callee_Bytes.j4 (n : Nat) (kr2 : (List Int) → (List Dpast) → Int → Option (List Int)) (x3 : List Int) (x5 : Dpast) (x11 : List Dpast) (x12 : Int) : Option (List Int) :=
  bif (decide (x5.1 = (2 : Int))) then (geK (8 : Int) (appK x3.length ([(IntKind.u8.wrap (ishr IntKind.i64 (x5.2.2.2.1.length : Int) ((8 : Int)).toNat)), (IntKind.u8.wrap (x5.2.2.2.1.length : Int))] : List Int).length 1 (appK (x3 ++ ([(IntKind.u8.wrap (ishr IntKind.i64 (x5.2.2.2.1.length : Int) ((8 : Int)).toNat)), (IntKind.u8.wrap (x5.2.2.2.1.length : Int))] : List Int)).length x5.2.2.2.1.length 1 (rpc_Callee_Bytes.j3 n kr2 ((x3 ++ ([(IntKind.u8.wrap (ishr IntKind.i64 (x5.2.2.2.1.length : Int) ((8 : Int)).toNat)), (IntKind.u8.wrap (x5.2.2.2.1.length : Int))] : List Int)) ++ x5.2.2.2.1) x11 x12))))
  else (rpc_Callee_Bytes.j3 n kr2 x3 x11 x12)
theorem rpc_Callee_Bytes.w4 (n : Nat) (Kr2 : St → Option rpc_Callee_Bytes.R) (x3 : List Int) (x5 : Dpast) (x11 : List Dpast) (x12 : Int) (K3 : St → Option rpc_Callee_Bytes.R) (K1 : St → Option rpc_Callee_Bytes.R) : ev (rpc_Callee_Bytes.d4 n) [(3, some ⟨.slX .U (.int .u8), x3⟩), (5, some ⟨.box Tpast, x5⟩), (11, some ⟨.arr 3 Tpast, x11⟩), (12, some ⟨.int .i64, x12⟩)] (⟨retK rpc_Callee_Bytes.rs rpc_Callee_Bytes.ps rpc_Callee_Bytes.r, [(1, K3), (0, K1)]⟩ : Ks rpc_Callee_Bytes.R) K3 =
  (bif (decide (x5.1 = (2 : Int))) then (geK (8 : Int) (appK x3.length ([(IntKind.u8.wrap (ishr IntKind.i64 (x5.2.2.2.1.length : Int) ((8 : Int)).toNat)), (IntKind.u8.wrap (x5.2.2.2.1.length : Int))] : List Int).length 1 (appK (x3 ++ ([(IntKind.u8.wrap (ishr IntKind.i64 (x5.2.2.2.1.length : Int) ((8 : Int)).toNat)), (IntKind.u8.wrap (x5.2.2.2.1.length : Int))] : List Int)).length x5.2.2.2.1.length 1 (K3 [(3, some ⟨.slX .U (.int .u8), (((x3 ++ ([(IntKind.u8.wrap (ishr IntKind.i64 (x5.2.2.2.1.length : Int) ((8 : Int)).toNat)), (IntKind.u8.wrap (x5.2.2.2.1.length : Int))] : List Int)) ++ x5.2.2.2.1) : List Int)⟩), (11, some ⟨.arr 3 Tpast, x11⟩), (12, some ⟨.int .i64, x12⟩)]))))
  else (K3 [(3, some ⟨.slX .U (.int .u8), x3⟩), (11, some ⟨.arr 3 Tpast, x11⟩), (12, some ⟨.int .i64, x12⟩)]) : Option rpc_Callee_Bytes.R) := by kernel_rfl
theorem rpc_Callee_Bytes.s4 (n : Nat) (Kr2 : St → Option rpc_Callee_Bytes.R) (kr2 : (List Int) → (List Dpast) → Int → Option (List Int)) (hK2 : ∀ (x3 : List Int) (x11 : List Dpast) (x12 : Int), Kr2 [(3, some ⟨.slX .U (.int .u8), x3⟩), (11, some ⟨.arr 3 Tpast, x11⟩), (12, some ⟨.int .i64, x12⟩)] = kr2 x3 x11 x12) (x3 : List Int) (x5 : Dpast) (x11 : List Dpast) (x12 : Int) : ev (rpc_Callee_Bytes.c4 n) [(3, some ⟨.slX .U (.int .u8), x3⟩), (5, some ⟨.box Tpast, x5⟩), (11, some ⟨.arr 3 Tpast, x11⟩), (12, some ⟨.int .i64, x12⟩)] (⟨retK rpc_Callee_Bytes.rs rpc_Callee_Bytes.ps rpc_Callee_Bytes.r, [(1, (rpc_Callee_Bytes.K3 n Kr2)), (0, (rpc_Callee_Bytes.K1 n))]⟩ : Ks rpc_Callee_Bytes.R) (rpc_Callee_Bytes.K3 n Kr2) = rpc_Callee_Bytes.j4 n kr2 x3 x5 x11 x12 := (rpc_Callee_Bytes.w4 n Kr2 x3 x5 x11 x12 (rpc_Callee_Bytes.K3 n Kr2) (rpc_Callee_Bytes.K1 n)).trans (by simp only [rpc_Callee_Bytes.j4, rpc_Callee_Bytes.q3_0 n Kr2 kr2 hK2] <;> kernel_rfl)
noncomputable def rpc_Callee_Bytes.H4 (n : Nat) (K3 : St → Option rpc_Callee_Bytes.R) (K1 : St → Option rpc_Callee_Bytes.R) (X : XC) : St → Option rpc_Callee_Bytes.R := fun st => ghK [.keep [3, 5, 11, 12]] st fun st => ev X st (⟨retK rpc_Callee_Bytes.rs rpc_Callee_Bytes.ps rpc_Callee_Bytes.r, [(1, K3), (0, K1)]⟩ : Ks rpc_Callee_Bytes.R) K3
noncomputable abbrev rpc_Callee_Bytes.K4 (n : Nat) (Kr2 : St → Option rpc_Callee_Bytes.R) : St → Option rpc_Callee_Bytes.R := rpc_Callee_Bytes.H4 n (rpc_Callee_Bytes.K3 n Kr2) (rpc_Callee_Bytes.K1 n) (rpc_Callee_Bytes.c4 n)
noncomputable def rpc_Callee_Bytes.db2 (n : Nat) (X3 X4 : XC) : XC :=
  (.aft (.seq (.reg (.op (.bin 13 .lss (.t 12) (.c ⟨.int .i64, ((3 : Int) : Int)⟩)) none <| .nil)) <|
  (.seq (.cond (.t 13)
  .skip
  (.pre [.keep [3]] (.exit 0))) <|
  (.seq (.aft (.block 1 (.seq (.reg (.op (.idx 14 (.t 11) (.t 12) 4 true 3) none <| .op (.alloc 5 ⟨Tpast, (((0 : Int), (0 : Int), (0 : Int), ([] : List Int), ()) : Dpast)⟩) none <| .op (.st 5 (.t 14) 4) none <| .nil)) <|
  (.seq (.reg (.op (.take 15 3) none <| .op (.fa 16 5 0 0) none <| .op (.ld 17 16 1 false) none <| .op (.bsl 18 (.int .u8) [(.t 17)]) none <| .op (.app 19 15 (.t 18) 1 1) none <| .op (.take 3 19) none <| .nil)) <|
  (.seq (.aft (.seq (.reg (.op (.fa 20 5 0 0) none <| .op (.ld 21 20 1 false) none <| .op (.bin 22 .neq (.t 21) (.c ⟨.int .u8, ((0 : Int) : Int)⟩)) none <| .nil)) <|
  (.cond (.t 22)
  (.regD (.op (.take 23 3) (some ([3, 23], [3, 23])) <| .op (.fa 24 5 1 1) (some ([5, 24], [24])) <| .op (.ld 25 24 1 false) (some ([5, 24, 25], [25])) <| .op (.call (some 26) (rpc_put.sp n) [.k 23, .v (.t 25)]) (some ([23, 25, 26], [23, 26])) <| .op (.fa 27 5 2 2) (some ([5, 27], [27])) <| .op (.ld 28 27 1 false) (some ([5, 27, 28], [28])) <| .op (.call (some 29) (rpc_put.sp n) [.k 26, .v (.t 28)]) (some ([26, 28, 29], [26, 29])) <| .op (.take 3 29) (some ([3, 29], [3, 29])) <| .nil))
  .skip)) [.keep [3, 5, 11, 12]]) X4)))) [.keep [3, 11, 12]]) X3))) [.keep [3, 11, 12]])
noncomputable abbrev rpc_Callee_Bytes.cb2 (n : Nat) : XC := rpc_Callee_Bytes.db2 n (rpc_Callee_Bytes.c3 n) (rpc_Callee_Bytes.c4 n)
theorem rpc_Callee_Bytes.q1_0_r (n : Nat) (X : XC) (x3 : List Int) : rpc_Callee_Bytes.H1 n X [(3, some ⟨.slX .U (.int .u8), x3⟩)] = (ev X [(3, some ⟨.slX .U (.int .u8), x3⟩)] (⟨retK rpc_Callee_Bytes.rs rpc_Callee_Bytes.ps rpc_Callee_Bytes.r, []⟩ : Ks rpc_Callee_Bytes.R) (retK rpc_Callee_Bytes.rs rpc_Callee_Bytes.ps rpc_Callee_Bytes.r) : Option rpc_Callee_Bytes.R) := by kernel_rfl
theorem rpc_Callee_Bytes.q1_0 (n : Nat) (x3 : List Int) : rpc_Callee_Bytes.K1 n [(3, some ⟨.slX .U (.int .u8), x3⟩)] = rpc_Callee_Bytes.j1 n x3 := (rpc_Callee_Bytes.q1_0_r n (rpc_Callee_Bytes.c1 n) x3).trans (rpc_Callee_Bytes.s1 n x3)
noncomputable def rpc_Callee_Bytes.l2 (n : Nat) : Nat → (List Int) → (List Dpast) → Int → Option (List Int)
  | 0, _, _, _ => none
  | k + 1, x3, x11, x12 =>
  bif (decide (x12 < (3 : Int))) then (idxK x11 x12 fun e1 => appK x3.length ([e1.1] : List Int).length 1 (bif (!decide (e1.1 = (0 : Int))) then ((rpc_put.f n (x3 ++ ([e1.1] : List Int)) e1.2.1).bind fun r2 => (rpc_put.f n r2 e1.2.2.1).bind fun r3 => rpc_Callee_Bytes.j4 n (rpc_Callee_Bytes.l2 n k) r3 (e1.1, e1.2.1, e1.2.2.1, e1.2.2.2.1, e1.2.2.2.2) x11 x12)
  else (rpc_Callee_Bytes.j4 n (rpc_Callee_Bytes.l2 n k) (x3 ++ ([e1.1] : List Int)) (e1.1, e1.2.1, e1.2.2.1, e1.2.2.2.1, e1.2.2.2.2) x11 x12)))
  else (rpc_Callee_Bytes.j1 n x3)
theorem rpc_Callee_Bytes.wb2 (n : Nat) (Kr2 : St → Option rpc_Callee_Bytes.R) (x3 : List Int) (x11 : List Dpast) (x12 : Int) (K1 : St → Option rpc_Callee_Bytes.R) (X3 X4 : XC) : ev (rpc_Callee_Bytes.db2 n X3 X4) (keepSt [(3, some ⟨.slX .U (.int .u8), x3⟩), (11, some ⟨.arr 3 Tpast, x11⟩), (12, some ⟨.int .i64, x12⟩)] [3, 11, 12]) (⟨retK rpc_Callee_Bytes.rs rpc_Callee_Bytes.ps rpc_Callee_Bytes.r, [(0, K1)]⟩ : Ks rpc_Callee_Bytes.R) Kr2 =
  (bif (decide (x12 < (3 : Int))) then (idxK x11 x12 fun e1 => appK x3.length ([e1.1] : List Int).length 1 (bif (!decide (e1.1 = (0 : Int))) then ((rpc_put.f n (x3 ++ ([e1.1] : List Int)) e1.2.1).bind fun r2 => (rpc_put.f n r2 e1.2.2.1).bind fun r3 => ev X4 [(3, some ⟨.slX .U (.int .u8), r3⟩), (5, some ⟨.box Tpast, ((e1.1, e1.2.1, e1.2.2.1, e1.2.2.2.1, e1.2.2.2.2) : Dpast)⟩), (11, some ⟨.arr 3 Tpast, x11⟩), (12, some ⟨.int .i64, x12⟩)] (⟨retK rpc_Callee_Bytes.rs rpc_Callee_Bytes.ps rpc_Callee_Bytes.r, [(1, (rpc_Callee_Bytes.H3 n K1 (rpc_Callee_Bytes.Kb2 Kr2) X3)), (0, K1)]⟩ : Ks rpc_Callee_Bytes.R) (rpc_Callee_Bytes.H3 n K1 (rpc_Callee_Bytes.Kb2 Kr2) X3))
  else (ev X4 [(3, some ⟨.slX .U (.int .u8), ((x3 ++ ([e1.1] : List Int)) : List Int)⟩), (5, some ⟨.box Tpast, ((e1.1, e1.2.1, e1.2.2.1, e1.2.2.2.1, e1.2.2.2.2) : Dpast)⟩), (11, some ⟨.arr 3 Tpast, x11⟩), (12, some ⟨.int .i64, x12⟩)] (⟨retK rpc_Callee_Bytes.rs rpc_Callee_Bytes.ps rpc_Callee_Bytes.r, [(1, (rpc_Callee_Bytes.H3 n K1 (rpc_Callee_Bytes.Kb2 Kr2) X3)), (0, K1)]⟩ : Ks rpc_Callee_Bytes.R) (rpc_Callee_Bytes.H3 n K1 (rpc_Callee_Bytes.Kb2 Kr2) X3))))
  else (K1 [(3, some ⟨.slX .U (.int .u8), x3⟩)]) : Option rpc_Callee_Bytes.R) := by kernel_rfl
theorem rpc_Callee_Bytes.l2_ok (n : Nat) (k : Nat) : ∀ (x3 : List Int) (x11 : List Dpast) (x12 : Int), loopEv [3, 11, 12] (fun s K => ev (rpc_Callee_Bytes.cb2 n) s (⟨retK rpc_Callee_Bytes.rs rpc_Callee_Bytes.ps rpc_Callee_Bytes.r, [(0, (rpc_Callee_Bytes.K1 n))]⟩ : Ks rpc_Callee_Bytes.R) K) k [(3, some ⟨.slX .U (.int .u8), x3⟩), (11, some ⟨.arr 3 Tpast, x11⟩), (12, some ⟨.int .i64, x12⟩)] = rpc_Callee_Bytes.l2 n k x3 x11 x12 := by
  induction k with
  | zero => intros; rfl
  | succ k ih =>
    intro x3 x11 x12
    exact (rpc_Callee_Bytes.wb2 n (fun st => loopEv [3, 11, 12] (fun s K => ev (rpc_Callee_Bytes.cb2 n) s (⟨retK rpc_Callee_Bytes.rs rpc_Callee_Bytes.ps rpc_Callee_Bytes.r, [(0, (rpc_Callee_Bytes.K1 n))]⟩ : Ks rpc_Callee_Bytes.R) K) k st) x3 x11 x12 (rpc_Callee_Bytes.K1 n) (rpc_Callee_Bytes.c3 n) (rpc_Callee_Bytes.c4 n)).trans (by simp only [rpc_Callee_Bytes.l2, rpc_Callee_Bytes.s4 n (fun st => loopEv [3, 11, 12] (fun s K => ev (rpc_Callee_Bytes.cb2 n) s (⟨retK rpc_Callee_Bytes.rs rpc_Callee_Bytes.ps rpc_Callee_Bytes.r, [(0, (rpc_Callee_Bytes.K1 n))]⟩ : Ks rpc_Callee_Bytes.R) K) k st) (rpc_Callee_Bytes.l2 n k) ih, rpc_Callee_Bytes.q1_0 n] <;> kernel_rfl)
noncomputable def rpc_Callee_Bytes.d (n : Nat) (X1 Y2 : XC) : XC :=
  (.seq (.reg (.op (.mv 2 (.c ⟨.nil 0, ()⟩)) none <| .nil)) <|
  (.seq (.seq (.reg (.op (.mv 6 (.t 0)) none <| .op (.eqnil 7 (.t 6) false false) none <| .nil)) <|
  (.cond (.t 7)
  (.seq (.reg (.op (.mv 2 (.c ⟨.nil 0, ()⟩)) none <| .nil)) <|
  .ret)
  .skip)) <|
  (.seq (.reg (.op (.mv 3 (.c ⟨.nil 0, ()⟩)) none <| .nil)) <|
  (.seq (.aft (.seq (.reg (.op (.mv 8 (.t 0)) none <| .op (.nilchk 9 (.t 8)) none <| .op (.fa 10 9 0 0) none <| .op (.ld 11 10 12 true) none <| .op (.mv 12 (.c ⟨.int .i64, ((0 : Int) : Int)⟩)) none <| .nil)) <|
  (.block 0 (.pre [.coe 3 (.slX .U (.int .u8)), .keep [3, 11, 12]] (.loop n [3, 11, 12] Y2)))) [.keep [3]]) X1))))
noncomputable abbrev rpc_Callee_Bytes.c (n : Nat) : XC := rpc_Callee_Bytes.d n (rpc_Callee_Bytes.c1 n) (rpc_Callee_Bytes.cb2 n)
noncomputable def rpc_Callee_Bytes.f (n : Nat) (a0 : Option DCallee) : Option (List Int) :=
  bif (Option.isNone a0) then (some ([] : List Int))
  else (optM a0 none fun p1 => rpc_Callee_Bytes.l2 n n ([] : List Int) p1.1 (0 : Int))
theorem rpc_Callee_Bytes.w (n : Nat) (a0 : Option DCallee) (X1 Y2 : XC) : evFn (rpc_Callee_Bytes.d n X1 Y2) rpc_Callee_Bytes.rs rpc_Callee_Bytes.ps rpc_Callee_Bytes.r (a0, ()) =
  (bif (Option.isNone a0) then (some ([] : List Int))
  else (optM a0 none fun p1 => loopEv [3, 11, 12] (fun s K => ev Y2 s (⟨retK rpc_Callee_Bytes.rs rpc_Callee_Bytes.ps rpc_Callee_Bytes.r, [(0, (rpc_Callee_Bytes.H1 n X1))]⟩ : Ks rpc_Callee_Bytes.R) K) n [(3, some ⟨.slX .U (.int .u8), (([] : List Int) : List Int)⟩), (11, some ⟨.arr 3 Tpast, p1.1⟩), (12, some ⟨.int .i64, (0 : Int)⟩)]) : Option rpc_Callee_Bytes.R) := by kernel_rfl
theorem rpc_Callee_Bytes.ok (n : Nat) (a0 : Option DCallee) : evFn (rpc_Callee_Bytes.c n) rpc_Callee_Bytes.rs rpc_Callee_Bytes.ps rpc_Callee_Bytes.r (a0, ()) = rpc_Callee_Bytes.f n a0 := (rpc_Callee_Bytes.w n a0 (rpc_Callee_Bytes.c1 n) (rpc_Callee_Bytes.cb2 n)).trans (by simp only [rpc_Callee_Bytes.f, rpc_Callee_Bytes.l2_ok n] <;> kernel_rfl)
noncomputable def rpc_Callee_Bytes.sp (n : Nat) : FSpec := { f := 28, ps := rpc_Callee_Bytes.ps, r := rpc_Callee_Bytes.r, run := fun x => rpc_Callee_Bytes.f n x.1 }
theorem rpc_Callee_Bytes.calls (n : Nat) : (rpc_Callee_Bytes.c n).calls = [rpc_put.sp n, rpc_put.sp n] := by kernel_rfl
theorem rpc_Callee_Bytes.fits (n : Nat) : fnB tab hd Try.f28 (rpc_Callee_Bytes.c n) rpc_Callee_Bytes.rs (rpc_Callee_Bytes.sp n).ps (rpc_Callee_Bytes.sp n).r = true := by kernel_rfl
theorem rpc_Callee_Bytes.sound (n : Nat) : Sound Try.prog (rpc_Callee_Bytes.sp n) := by
  refine fnB_sound tabOk eqFacts mixed (fn := Try.f28) (c := rpc_Callee_Bytes.c n) (rs := rpc_Callee_Bytes.rs) (by kernel_rfl) ?_ (rpc_Callee_Bytes.fits n) ?_
  · rw [rpc_Callee_Bytes.calls]
    intro s hs
    simp only [List.mem_cons, List.not_mem_nil, or_false] at hs
    rcases hs with rfl | rfl
    · exact rpc_put.sound n
    · exact rpc_put.sound n
  · rintro ⟨a0, ⟨⟩⟩ y h
    exact (rpc_Callee_Bytes.ok n a0).trans h
/-! backwater/backwaterlaw11.RpcNone -/
abbrev law11_RpcNone.ps : List (Ty × Bool) := [(TDeed, false), (.int .u8, false)]
abbrev law11_RpcNone.r : Ty := .bool
abbrev law11_RpcNone.rs : List RV := [.t 4]
abbrev law11_RpcNone.R : Type := (rtOf law11_RpcNone.ps law11_RpcNone.r).den
noncomputable def law11_RpcNone.d (n : Nat) : XC :=
  (.seq (.reg (.op (.boxv 2 (.t 0)) none <| .op (.mv 4 (.c ⟨.bool, (false : Bool)⟩)) none <| .nil)) <|
  (.seq (.reg (.op (.mv 5 (.c ⟨.nil 1, ()⟩)) none <| .nil)) <|
  (.seq (.reg (.op (.mv 6 (.c ⟨.nil 1, ()⟩)) none <| .nil)) <|
  (.seq (.reg (.op (.mv 18 (.t 5)) none <| .op (.fa 19 2 2 2) none <| .op (.ld 20 19 1 false) none <| .op (.call (some 21) (rpc_Caller_Tick.sp n) [.l 18, .v (.t 20)]) none <| .op (.take 17 21) none <| .op (.ext 22 17 0) none <| .op (.ext 23 17 1) none <| .op (.alloc 7 ⟨TPacket, (((0 : Int), (0 : Int), (0 : Int), (0 : Int), (0 : Int), ([] : List Int), ()) : DPacket)⟩) none <| .op (.st 7 (.t 22) 6) none <| .op (.mv 8 (.t 23)) none <| .nil)) <|
  (.seq (.reg (.op (.mv 25 (.t 5)) none <| .op (.fa 26 2 3 3) none <| .op (.ld 27 26 6 true) none <| .op (.call (some 28) (rpc_Caller_Take.sp n) [.l 25, .v (.t 27)]) none <| .op (.take 24 28) none <| .op (.ext 29 24 0) none <| .op (.ext 30 24 1) none <| .op (.mv 9 (.t 29)) none <| .op (.mv 10 (.t 30)) none <| .nil)) <|
  (.seq (.pre [.keep [1, 2, 5, 6, 7, 8, 9, 10]] (.reg (.op (.mv 32 (.t 6)) none <| .op (.fa 33 2 3 3) none <| .op (.ld 34 33 6 true) none <| .op (.call (some 35) (rpc_Callee_Take.sp n) [.l 32, .v (.t 34)]) none <| .op (.take 31 35) none <| .op (.ext 36 31 0) none <| .op (.ext 37 31 1) none <| .op (.ext 38 31 2) none <| .op (.ext 39 31 3) none <| .op (.alloc 13 ⟨TPacket, (((0 : Int), (0 : Int), (0 : Int), (0 : Int), (0 : Int), ([] : List Int), ()) : DPacket)⟩) none <| .op (.mv 11 (.t 36)) none <| .op (.mv 12 (.t 37)) none <| .op (.st 13 (.t 38) 6) none <| .op (.mv 14 (.t 39)) none <| .nil))) <|
  (.seq (.reg (.op (.mv 41 (.t 6)) none <| .op (.fa 42 2 4 9) none <| .op (.ld 43 42 1 false) none <| .op (.fa 44 2 1 1) none <| .op (.ld 45 44 1 false) none <| .op (.call (some 46) (rpc_Callee_Reply.sp n) [.l 41, .v (.t 43), .v (.t 45)]) none <| .op (.take 40 46) none <| .op (.ext 47 40 0) none <| .op (.ext 48 40 1) none <| .op (.alloc 15 ⟨TPacket, (((0 : Int), (0 : Int), (0 : Int), (0 : Int), (0 : Int), ([] : List Int), ()) : DPacket)⟩) none <| .op (.st 15 (.t 47) 6) none <| .op (.mv 16 (.t 48)) none <| .nil)) <|
  (.seq (.pre [.keep [1, 2, 5, 6, 7, 8, 9, 10, 11, 12, 13, 14, 15, 16]] (.reg (.op (.call (some 49) (law11_live.sp n) []) none <| .op (.mv 50 (.t 49)) none <| .grp 50 true (.op (.mv 51 (.t 5)) (some ([5, 50, 51], [51])) <| .op (.fa 52 2 1 1) (some ([2, 50, 52], [52])) <| .op (.ld 53 52 1 false) (some ([2, 50, 52, 53], [53])) <| .op (.call (some 54) (rpc_Caller_Call.sp n) [.l 51, .v (.t 53)]) (some ([50, 51, 53, 54], [54])) <| .op (.bin 55 .eql (.t 54) (.c ⟨.int .i64, ((1 : Int) : Int)⟩)) (some ([50, 54, 55], [55])) <| .nil) 55 56 [51, 52, 53, 54, 55] <| .op (.mv 57 (.t 56)) none <| .grp 57 true (.op (.ld 58 7 6 true) (some ([7, 57, 58], [58])) <| .op (.build 59 ⟨TPacket, (((0 : Int), (0 : Int), (0 : Int), (0 : Int), (0 : Int), ([] : List Int), ()) : DPacket)⟩ []) (some ([57, 59], [59])) <| .op (.eqs 60 false (.t 58) (.t 59) TPacket) (some ([57, 58, 59, 60], [60])) <| .nil) 60 61 [58, 59, 60] <| .op (.mv 62 (.t 61)) none <| .grp 62 true (.op (.mv 63 (.t 8)) (some ([8, 62, 63], [63])) <| .op (.un 64 .not (.t 63)) (some ([62, 63, 64], [64])) <| .nil) 64 65 [63, 64] <| .op (.mv 66 (.t 65)) none <| .grp 66 true (.op (.mv 67 (.t 9)) (some ([9, 66, 67], [67])) <| .op (.bin 68 .eql (.t 67) (.c ⟨.str, (([] : List Int) : List Int)⟩)) (some ([66, 67, 68], [68])) <| .nil) 68 69 [67, 68] <| .op (.mv 70 (.t 69)) none <| .grp 70 true (.op (.mv 71 (.t 10)) (some ([10, 70, 71], [71])) <| .op (.un 72 .not (.t 71)) (some ([70, 71, 72], [72])) <| .nil) 72 73 [71, 72] <| .op (.mv 74 (.t 73)) none <| .grp 74 true (.op (.mv 75 (.t 5)) (some ([5, 74, 75], [75])) <| .op (.call (some 76) (rpc_Caller_Cancel.sp n) [.l 75]) (some ([74, 75, 76], [76])) <| .op (.bin 77 .eql (.t 76) (.c ⟨.int .i64, ((1 : Int) : Int)⟩)) (some ([74, 76, 77], [77])) <| .nil) 77 78 [75, 76, 77] <| .op (.mv 79 (.t 78)) none <| .grp 79 true (.op (.mv 80 (.t 5)) (some ([5, 79, 80], [80])) <| .op (.call (some 81) (rpc_Caller_Busy.sp n) [.r 80]) (some ([79, 80, 81], [81])) <| .op (.un 82 .not (.t 81)) (some ([79, 81, 82], [82])) <| .nil) 82 83 [80, 81, 82] <| .op (.mv 84 (.t 83)) none <| .grp 84 true (.op (.mv 85 (.t 5)) (some ([5, 84, 85], [85])) <| .op (.call (some 86) (rpc_Caller_Down.sp n) [.r 85]) (some ([84, 85, 86], [86])) <| .op (.un 87 .not (.t 86)) (some ([84, 86, 87], [87])) <| .nil) 87 88 [85, 86, 87] <| .op (.mv 89 (.t 88)) none <| .grp 89 true (.op (.mv 90 (.t 5)) (some ([5, 89, 90], [90])) <| .op (.call (some 91) (rpc_Caller_Fork.sp n) [.r 90]) (some ([89, 90, 91], [91])) <| .op (.eqnil 92 (.t 91) false false) (some ([89, 91, 92], [92])) <| .nil) 92 93 [90, 91, 92] <| .op (.mv 94 (.t 93)) none <| .grp 94 true (.op (.mv 95 (.t 11)) (some ([11, 94, 95], [95])) <| .op (.bin 96 .eql (.t 95) (.c ⟨.str, (([] : List Int) : List Int)⟩)) (some ([94, 95, 96], [96])) <| .nil) 96 97 [95, 96] <| .op (.mv 98 (.t 97)) none <| .grp 98 true (.op (.mv 99 (.t 12)) (some ([12, 98, 99], [99])) <| .op (.un 100 .not (.t 99)) (some ([98, 99, 100], [100])) <| .nil) 100 101 [99, 100] <| .op (.mv 102 (.t 101)) none <| .grp 102 true (.op (.ld 103 13 6 true) (some ([13, 102, 103], [103])) <| .op (.build 104 ⟨TPacket, (((0 : Int), (0 : Int), (0 : Int), (0 : Int), (0 : Int), ([] : List Int), ()) : DPacket)⟩ []) (some ([102, 104], [104])) <| .op (.eqs 105 false (.t 103) (.t 104) TPacket) (some ([102, 103, 104, 105], [105])) <| .nil) 105 106 [103, 104, 105] <| .op (.mv 107 (.t 106)) none <| .grp 107 true (.op (.mv 108 (.t 14)) (some ([14, 107, 108], [108])) <| .op (.un 109 .not (.t 108)) (some ([107, 108, 109], [109])) <| .nil) 109 110 [108, 109] <| .op (.mv 111 (.t 110)) none <| .grp 111 true (.op (.ld 112 15 6 true) (some ([15, 111, 112], [112])) <| .op (.build 113 ⟨TPacket, (((0 : Int), (0 : Int), (0 : Int), (0 : Int), (0 : Int), ([] : List Int), ()) : DPacket)⟩ []) (some ([111, 113], [113])) <| .op (.eqs 114 false (.t 112) (.t 113) TPacket) (some ([111, 112, 113, 114], [114])) <| .nil) 114 115 [112, 113, 114] <| .op (.mv 116 (.t 115)) none <| .grp 116 true (.op (.mv 117 (.t 16)) (some ([16, 116, 117], [117])) <| .op (.bin 118 .eql (.t 117) (.c ⟨.int .i64, ((1 : Int) : Int)⟩)) (some ([116, 117, 118], [118])) <| .nil) 118 119 [117, 118] <| .op (.mv 120 (.t 119)) none <| .grp 120 true (.op (.mv 121 (.t 6)) (some ([6, 120, 121], [121])) <| .op (.call (some 122) (rpc_Callee_Bytes.sp n) [.r 121]) (some ([120, 121, 122], [122])) <| .op (.len 123 (.t 122) false) (some ([120, 122, 123], [123])) <| .op (.bin 124 .eql (.t 123) (.c ⟨.int .i64, ((0 : Int) : Int)⟩)) (some ([120, 123, 124], [124])) <| .nil) 124 125 [121, 122, 123, 124] <| .op (.mv 126 (.t 125)) none <| .grp 126 true (.op (.mv 127 (.t 1)) (some ([1, 126, 127], [127])) <| .op (.call (some 128) (rpc_NewCaller.sp n) [.v (.t 127), .v (.c ⟨.int .u32, ((1 : Int) : Int)⟩)]) (some ([126, 127, 128], [128])) <| .op (.eqnil 129 (.t 128) false false) (some ([126, 128, 129], [129])) <| .op (.mv 130 (.t 1)) (some ([1, 126, 130], [130])) <| .op (.bin 131 .lss (.t 130) (.c ⟨.int .u8, ((1 : Int) : Int)⟩)) (some ([126, 130, 131], [131])) <| .op (.mv 132 (.t 131)) (some ([126, 131, 132], [132])) <| .grp 132 false (.op (.mv 133 (.t 1)) (some ([1, 132, 133], [133])) <| .op (.bin 134 .gtr (.t 133) (.c ⟨.int .u8, ((3 : Int) : Int)⟩)) (some ([132, 133, 134], [134])) <| .nil) 134 135 [133, 134] <| .op (.eqs 136 false (.t 129) (.t 135) .bool) (some ([126, 129, 135, 136], [136])) <| .nil) 136 137 [127, 128, 129, 130, 131, 132, 133, 134, 135, 136] <| .op (.mv 4 (.t 137)) none <| .nil))) <|
  .ret))))))))
noncomputable abbrev law11_RpcNone.c (n : Nat) : XC := law11_RpcNone.d n
noncomputable def law11_RpcNone.f (n : Nat) (a0 : DDeed) (a1 : Int) : Option Bool :=
  (rpc_Caller_Tick.f n none a0.2.2.1).bind fun r1 => (rpc_Caller_Take.f n none (a0.2.2.2.1.1, a0.2.2.2.1.2.1, a0.2.2.2.1.2.2.1, a0.2.2.2.1.2.2.2.1, a0.2.2.2.1.2.2.2.2.1, a0.2.2.2.1.2.2.2.2.2.1, a0.2.2.2.1.2.2.2.2.2.2)).bind fun r2 => (rpc_Callee_Take.f n none (a0.2.2.2.1.1, a0.2.2.2.1.2.1, a0.2.2.2.1.2.2.1, a0.2.2.2.1.2.2.2.1, a0.2.2.2.1.2.2.2.2.1, a0.2.2.2.1.2.2.2.2.2.1, a0.2.2.2.1.2.2.2.2.2.2)).bind fun r3 => (rpc_Callee_Reply.f n none a0.2.2.2.2.1 a0.2.1).bind fun r4 => (law11_live.f n).bind fun r5 => (bif r5 then ((rpc_Caller_Call.f n none a0.2.1).bind fun r7 => some (decide (r7.2 = (1 : Int)))) else some false).bind fun g6 =>
  (bif g6 then (some ((eqI r1.2.1.1 (0 : Int) && (eqI r1.2.1.2.1 (0 : Int) && (eqI r1.2.1.2.2.1 (0 : Int) && (eqI r1.2.1.2.2.2.1 (0 : Int) && (eqI r1.2.1.2.2.2.2.1 (0 : Int) && (eqS r1.2.1.2.2.2.2.2.1 ([] : List Int) && true)))))))) else some false).bind fun g8 =>
  (bif g8 then (some (!r1.2.2.1)) else some false).bind fun g9 =>
  (bif g9 then (some (decide (r2.2.1 = ([] : List Int)))) else some false).bind fun g10 =>
  (bif g10 then (some (!r2.2.2.1)) else some false).bind fun g11 =>
  (bif g11 then ((rpc_Caller_Cancel.f n none).bind fun r13 => some (decide (r13.2 = (1 : Int)))) else some false).bind fun g12 =>
  (bif g12 then ((rpc_Caller_Busy.f n none).bind fun r15 => some (!r15)) else some false).bind fun g14 =>
  (bif g14 then ((rpc_Caller_Down.f n none).bind fun r17 => some (!r17)) else some false).bind fun g16 =>
  (bif g16 then ((rpc_Caller_Fork.f n none).bind fun r19 => some (Option.isNone r19)) else some false).bind fun g18 =>
  (bif g18 then (some (decide (r3.2.1 = ([] : List Int)))) else some false).bind fun g20 =>
  (bif g20 then (some (!r3.2.2.1)) else some false).bind fun g21 =>
  (bif g21 then (some ((eqI r3.2.2.2.1.1 (0 : Int) && (eqI r3.2.2.2.1.2.1 (0 : Int) && (eqI r3.2.2.2.1.2.2.1 (0 : Int) && (eqI r3.2.2.2.1.2.2.2.1 (0 : Int) && (eqI r3.2.2.2.1.2.2.2.2.1 (0 : Int) && (eqS r3.2.2.2.1.2.2.2.2.2.1 ([] : List Int) && true)))))))) else some false).bind fun g22 =>
  (bif g22 then (some (!r3.2.2.2.2.1)) else some false).bind fun g23 =>
  (bif g23 then (some ((eqI r4.2.1.1 (0 : Int) && (eqI r4.2.1.2.1 (0 : Int) && (eqI r4.2.1.2.2.1 (0 : Int) && (eqI r4.2.1.2.2.2.1 (0 : Int) && (eqI r4.2.1.2.2.2.2.1 (0 : Int) && (eqS r4.2.1.2.2.2.2.2.1 ([] : List Int) && true)))))))) else some false).bind fun g24 =>
  (bif g24 then (some (decide (r4.2.2.1 = (1 : Int)))) else some false).bind fun g25 =>
  (bif g25 then ((rpc_Callee_Bytes.f n none).bind fun r27 => some (decide ((r27.length : Int) = (0 : Int)))) else some false).bind fun g26 =>
  (bif g26 then ((rpc_NewCaller.f n a1 (1 : Int)).bind fun r29 => (bif (decide (a1 < (1 : Int))) then some true else (some (decide ((3 : Int) < a1)))).bind fun g30 =>
  some (bbeq (Option.isNone r29) g30)) else some false).bind fun g28 =>
  some g28
theorem law11_RpcNone.ok (n : Nat) (a0 : DDeed) (a1 : Int) : evFn (law11_RpcNone.c n) law11_RpcNone.rs law11_RpcNone.ps law11_RpcNone.r (a0, a1, ()) = law11_RpcNone.f n a0 a1 := by kernel_rfl
noncomputable def law11_RpcNone.sp (n : Nat) : FSpec := { f := 9, ps := law11_RpcNone.ps, r := law11_RpcNone.r, run := fun x => law11_RpcNone.f n x.1 x.2.1 }
theorem law11_RpcNone.calls (n : Nat) : (law11_RpcNone.c n).calls = [rpc_Caller_Tick.sp n, rpc_Caller_Take.sp n, rpc_Callee_Take.sp n, rpc_Callee_Reply.sp n, law11_live.sp n, rpc_Caller_Call.sp n, rpc_Caller_Cancel.sp n, rpc_Caller_Busy.sp n, rpc_Caller_Down.sp n, rpc_Caller_Fork.sp n, rpc_Callee_Bytes.sp n, rpc_NewCaller.sp n] := by kernel_rfl
theorem law11_RpcNone.fits (n : Nat) : fnB tab hd Try.f9 (law11_RpcNone.c n) law11_RpcNone.rs (law11_RpcNone.sp n).ps (law11_RpcNone.sp n).r = true := by kernel_rfl
theorem law11_RpcNone.sound (n : Nat) : Sound Try.prog (law11_RpcNone.sp n) := by
  refine fnB_sound tabOk eqFacts mixed (fn := Try.f9) (c := law11_RpcNone.c n) (rs := law11_RpcNone.rs) (by kernel_rfl) ?_ (law11_RpcNone.fits n) ?_
  · rw [law11_RpcNone.calls]
    intro s hs
    simp only [List.mem_cons, List.not_mem_nil, or_false] at hs
    rcases hs with rfl | rfl | rfl | rfl | rfl | rfl | rfl | rfl | rfl | rfl | rfl | rfl
    · exact rpc_Caller_Tick.sound n
    · exact rpc_Caller_Take.sound n
    · exact rpc_Callee_Take.sound n
    · exact rpc_Callee_Reply.sound n
    · exact law11_live.sound n
    · exact rpc_Caller_Call.sound n
    · exact rpc_Caller_Cancel.sound n
    · exact rpc_Caller_Busy.sound n
    · exact rpc_Caller_Down.sound n
    · exact rpc_Caller_Fork.sound n
    · exact rpc_Callee_Bytes.sound n
    · exact rpc_NewCaller.sound n
  · rintro ⟨a0, a1, ⟨⟩⟩ y h
    exact (law11_RpcNone.ok n a0 a1).trans h
end Go.Proofs.Ytpkpihcdbgckkaa.S
