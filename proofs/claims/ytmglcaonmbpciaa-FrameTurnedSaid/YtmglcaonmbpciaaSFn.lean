/- The functions of the seat: annotated code, shallow functions, and that each keeps its contract. Printed by pr.py. -/
import Derived.Test.YtmglcaonmbpciaaSTab
namespace Go.Proofs.Ytmglcaonmbpciaa.S
open Go Go.Proofs Go.Proofs.Bw
set_option maxRecDepth 100000
set_option linter.unusedVariables false
abbrev TboundsError : Ty := .pair (.int .i64) (.pair (.int .i64) (.pair .bool (.pair (.int .u8) .unit)))
abbrev DboundsError : Type := Int × Int × Bool × Int × Unit
abbrev TerrorAddressString : Ty := .pair .str (.pair (.int .u64) .unit)
abbrev DerrorAddressString : Type := (List Int) × Int × Unit
abbrev TPacket : Ty := .pair (.int .u8) (.pair (.int .u8) (.pair (.int .u8) (.pair (.int .u32) (.pair (.int .u32) (.pair .str .unit)))))
abbrev DPacket : Type := Int × Int × Int × Int × Int × (List Int) × Unit
abbrev Tbuffer : Ty := .pair (.slB .U false (.int .u8)) .unit
abbrev Dbuffer : Type := (List Int) × Unit
abbrev TbufferX : Ty := .pair (.slX .U (.int .u8)) .unit
abbrev Twriter : Ty := .pair Tbuffer .unit
abbrev Dwriter : Type := Dbuffer × Unit
abbrev TwriterX : Ty := .pair TbufferX .unit
/-! backwater/frame.Right -/
abbrev frame_Right.ps : List (Ty × Bool) := [(TPacket, false)]
abbrev frame_Right.r : Ty := .bool
abbrev frame_Right.rs : List RV := [.t 2]
abbrev frame_Right.R : Type := (rtOf frame_Right.ps frame_Right.r).den
noncomputable def frame_Right.c1 (n : Nat) : XC :=
  (.seq (.reg (.op (.mv 20 (.t 3)) none <| .op (.bin 21 .geq (.t 20) (.c ⟨.int .u8, (1 : Int)⟩)) none <| .op (.mv 22 (.t 21)) none <| .grp 22 true (.op (.mv 23 (.t 3)) (some ([3, 22, 23], [23])) <| .op (.bin 24 .leq (.t 23) (.c ⟨.int .u8, (3 : Int)⟩)) (some ([22, 23, 24], [24])) <| .nil) 24 25 [23, 24] <| .op (.mv 26 (.t 25)) none <| .grp 26 true (.op (.fa 27 1 4 4) (some ([1, 26, 27], [27])) <| .op (.ld 28 27 1 false) (some ([1, 26, 27, 28], [28])) <| .op (.bin 29 .gtr (.t 28) (.c ⟨.int .u32, (0 : Int)⟩)) (some ([26, 28, 29], [29])) <| .nil) 29 30 [27, 28, 29] <| .op (.mv 31 (.t 30)) none <| .grp 31 true (.op (.fa 32 1 5 5) (some ([1, 31, 32], [32])) <| .op (.ld 33 32 1 false) (some ([1, 31, 32, 33], [33])) <| .op (.len 34 (.t 33) true) (some ([31, 33, 34], [34])) <| .op (.bin 35 .leq (.t 34) (.c ⟨.int .i64, (16384 : Int)⟩)) (some ([31, 34, 35], [35])) <| .nil) 35 36 [32, 33, 34, 35] <| .op (.mv 2 (.t 36)) none <| .nil)) <|
  .ret)
noncomputable def frame_Right.j1 (n : Nat) (x1 : DPacket) (x3 : Int) : Option Bool :=
  (bif (decide ((1 : Int) ≤ x3)) then (some (decide (x3 ≤ (3 : Int)))) else some false).bind fun g1 =>
  (bif g1 then (some (decide ((0 : Int) < x1.2.2.2.2.1))) else some false).bind fun g2 =>
  (bif g2 then (some (decide ((x1.2.2.2.2.2.1.length : Int) ≤ (16384 : Int)))) else some false).bind fun g3 =>
  some g3
theorem frame_Right.s1 (n : Nat) (x1 : DPacket) (x3 : Int) : ev (frame_Right.c1 n) [(1, some ⟨.box TPacket, x1⟩), (3, some ⟨.int .u8, x3⟩)] (⟨retK frame_Right.rs frame_Right.ps frame_Right.r, []⟩ : Ks frame_Right.R) (retK frame_Right.rs frame_Right.ps frame_Right.r) = frame_Right.j1 n x1 x3 := by kernel_rfl
noncomputable def frame_Right.K1 (n : Nat) : St → Option frame_Right.R := fun st => ghK [.keep [1, 3]] st fun st => ev (frame_Right.c1 n) st (⟨retK frame_Right.rs frame_Right.ps frame_Right.r, []⟩ : Ks frame_Right.R) (retK frame_Right.rs frame_Right.ps frame_Right.r)
noncomputable def frame_Right.c (n : Nat) : XC :=
  (.seq (.reg (.op (.boxv 1 (.t 0)) none <| .op (.mv 2 (.c ⟨.bool, (false : Bool)⟩)) none <| .nil)) <|
  (.seq (.reg (.op (.fa 4 1 1 1) none <| .op (.ld 5 4 1 false) none <| .op (.mv 3 (.t 5)) none <| .nil)) <|
  (.seq (.aft (.seq (.reg (.op (.fa 6 1 0 0) none <| .op (.ld 7 6 1 false) none <| .nil)) <|
  (.block 0 (.seq (.reg (.op (.bin 9 .eql (.t 7) (.c ⟨.int .u8, (1 : Int)⟩)) none <| .op (.mv 8 (.t 9)) none <| .nil)) <|
  (.cond (.t 8)
  (.seq (.reg (.op (.fa 10 1 2 2) none <| .op (.ld 11 10 1 false) none <| .op (.bin 12 .neq (.t 11) (.c ⟨.int .u8, (0 : Int)⟩)) none <| .nil)) <|
  (.cond (.t 12)
  (.seq (.pre [.keep []] (.reg (.op (.mv 2 (.c ⟨.bool, (false : Bool)⟩)) none <| .nil))) <|
  .ret)
  .skip))
  (.seq (.reg (.op (.bin 14 .eql (.t 7) (.c ⟨.int .u8, (2 : Int)⟩)) none <| .op (.mv 13 (.t 14)) none <| .nil)) <|
  (.cond (.t 13)
  (.seq (.seq (.pre [.keep [1]] (.reg (.op (.fa 15 1 1 1) none <| .op (.ld 16 15 1 false) none <| .op (.bin 17 .neq (.t 16) (.c ⟨.int .u8, (0 : Int)⟩)) none <| .nil))) <|
  (.cond (.t 17)
  (.seq (.reg (.op (.mv 2 (.c ⟨.bool, (false : Bool)⟩)) none <| .nil)) <|
  .ret)
  .skip)) <|
  (.reg (.op (.fa 18 1 2 2) none <| .op (.ld 19 18 1 false) none <| .op (.mv 3 (.t 19)) none <| .nil)))
  (.seq (.pre [.keep []] (.reg (.op (.mv 2 (.c ⟨.bool, (false : Bool)⟩)) none <| .nil))) <|
  .ret))))))) [.keep [1, 3]]) (frame_Right.c1 n))))
noncomputable def frame_Right.f (n : Nat) (a0 : DPacket) : Option Bool :=
  bif (decide (a0.1 = (1 : Int))) then (bif (!decide (a0.2.2.1 = (0 : Int))) then (some false)
  else (frame_Right.j1 n (a0.1, a0.2.1, a0.2.2.1, a0.2.2.2.1, a0.2.2.2.2.1, a0.2.2.2.2.2.1, a0.2.2.2.2.2.2) a0.2.1))
  else (bif (decide (a0.1 = (2 : Int))) then (bif (!decide (a0.2.1 = (0 : Int))) then (some false)
  else (frame_Right.j1 n (a0.1, a0.2.1, a0.2.2.1, a0.2.2.2.1, a0.2.2.2.2.1, a0.2.2.2.2.2.1, a0.2.2.2.2.2.2) a0.2.2.1))
  else (some false))
theorem frame_Right.w (n : Nat) (a0 : DPacket) : evFn (frame_Right.c n) frame_Right.rs frame_Right.ps frame_Right.r (a0, ()) =
  (bif (decide (a0.1 = (1 : Int))) then (bif (!decide (a0.2.2.1 = (0 : Int))) then (some false)
  else (ev (frame_Right.c1 n) [(1, some ⟨.box TPacket, ((a0.1, a0.2.1, a0.2.2.1, a0.2.2.2.1, a0.2.2.2.2.1, a0.2.2.2.2.2.1, a0.2.2.2.2.2.2) : DPacket)⟩), (3, some ⟨.int .u8, a0.2.1⟩)] (⟨retK frame_Right.rs frame_Right.ps frame_Right.r, []⟩ : Ks frame_Right.R) (retK frame_Right.rs frame_Right.ps frame_Right.r)))
  else (bif (decide (a0.1 = (2 : Int))) then (bif (!decide (a0.2.1 = (0 : Int))) then (some false)
  else (ev (frame_Right.c1 n) [(1, some ⟨.box TPacket, ((a0.1, a0.2.1, a0.2.2.1, a0.2.2.2.1, a0.2.2.2.2.1, a0.2.2.2.2.2.1, a0.2.2.2.2.2.2) : DPacket)⟩), (3, some ⟨.int .u8, a0.2.2.1⟩)] (⟨retK frame_Right.rs frame_Right.ps frame_Right.r, []⟩ : Ks frame_Right.R) (retK frame_Right.rs frame_Right.ps frame_Right.r)))
  else (some false)) : Option frame_Right.R) := by kernel_rfl
theorem frame_Right.ok (n : Nat) (a0 : DPacket) : evFn (frame_Right.c n) frame_Right.rs frame_Right.ps frame_Right.r (a0, ()) = frame_Right.f n a0 := (frame_Right.w n a0).trans (by simp only [frame_Right.f, frame_Right.s1 n] <;> kernel_rfl)
noncomputable def frame_Right.sp (n : Nat) : FSpec := { f := 13, ps := frame_Right.ps, r := frame_Right.r, run := fun x => frame_Right.f n x.1 }
theorem frame_Right.calls (n : Nat) : (frame_Right.c n).calls = [] := by kernel_rfl
theorem frame_Right.fits (n : Nat) : fnB tab hd Try.f13 (frame_Right.c n) frame_Right.rs (frame_Right.sp n).ps (frame_Right.sp n).r = true := by kernel_rfl
theorem frame_Right.sound (n : Nat) : Sound Try.prog (frame_Right.sp n) := by
  refine fnB_sound tabOk eqFacts mixed (fn := Try.f13) (c := frame_Right.c n) (rs := frame_Right.rs) (by kernel_rfl) ?_ (frame_Right.fits n) ?_
  · rw [frame_Right.calls]
    intro s hs; cases hs
  · rintro ⟨a0, ⟨⟩⟩ y h
    exact (frame_Right.ok n a0).trans h
/-! (*backwater/frame.buffer).byte -/
abbrev frame_buffer_byte.ps : List (Ty × Bool) := [(.box TbufferX, true), (.slB .U false (.int .u8), false)]
abbrev frame_buffer_byte.r : Ty := .tup .unit
abbrev frame_buffer_byte.rs : List RV := []
abbrev frame_buffer_byte.R : Type := (rtOf frame_buffer_byte.ps frame_buffer_byte.r).den
noncomputable def frame_buffer_byte.c (n : Nat) : XC :=
  (.reg (.op (.bor 4 0) none <| .op (.bor 5 0) none <| .op (.nilchk 6 (.t 5)) none <| .op (.fa 7 6 0 0) none <| .op (.ldT 8 7 1 false) none <| .op (.mv 9 (.t 1)) none <| .op (.app 10 8 (.t 9) 1 1) none <| .op (.nilchk 11 (.t 4)) none <| .op (.fa 12 11 0 0) none <| .op (.stT 12 10 1) none <| .nil))
noncomputable def frame_buffer_byte.f (n : Nat) (a0 : (List Int) × Unit) (a1 : List Int) : Option (((List Int) × Unit) × Unit) :=
  appK a0.1.length a1.length 1 (some (((a0.1 ++ a1), a0.2), ()))
theorem frame_buffer_byte.ok (n : Nat) (a0 : (List Int) × Unit) (a1 : List Int) : evFn (frame_buffer_byte.c n) frame_buffer_byte.rs frame_buffer_byte.ps frame_buffer_byte.r (a0, a1, ()) = frame_buffer_byte.f n a0 a1 := by kernel_rfl
noncomputable def frame_buffer_byte.sp (n : Nat) : FSpec := { f := 23, ps := frame_buffer_byte.ps, r := frame_buffer_byte.r, run := fun x => frame_buffer_byte.f n x.1 x.2.1 }
theorem frame_buffer_byte.calls (n : Nat) : (frame_buffer_byte.c n).calls = [] := by kernel_rfl
theorem frame_buffer_byte.fits (n : Nat) : fnB tab hd Try.f23 (frame_buffer_byte.c n) frame_buffer_byte.rs (frame_buffer_byte.sp n).ps (frame_buffer_byte.sp n).r = true := by kernel_rfl
theorem frame_buffer_byte.sound (n : Nat) : Sound Try.prog (frame_buffer_byte.sp n) := by
  refine fnB_sound tabOk eqFacts mixed (fn := Try.f23) (c := frame_buffer_byte.c n) (rs := frame_buffer_byte.rs) (by kernel_rfl) ?_ (frame_buffer_byte.fits n) ?_
  · rw [frame_buffer_byte.calls]
    intro s hs; cases hs
  · rintro ⟨a0, a1, ⟨⟩⟩ y h
    exact (frame_buffer_byte.ok n a0 a1).trans h
/-! (*backwater/frame.buffer).number -/
abbrev frame_buffer_number.ps : List (Ty × Bool) := [(.box TbufferX, true), (.int .u32, false)]
abbrev frame_buffer_number.r : Ty := .tup .unit
abbrev frame_buffer_number.rs : List RV := []
abbrev frame_buffer_number.R : Type := (rtOf frame_buffer_number.ps frame_buffer_number.r).den
noncomputable def frame_buffer_number.Kb1 (Kr1 : St → Option frame_buffer_number.R) : St → Option frame_buffer_number.R := fun st => ghK [.keep [0, 1, 4]] st Kr1
noncomputable def frame_buffer_number.c2 (n : Nat) : XC :=
  (.aft (.reg (.op (.bin 13 .add (.t 4) (.c ⟨.int .i64, (1 : Int)⟩)) none <| .op (.mv 4 (.t 13)) none <| .nil)) [.keep [0, 1, 4]])
theorem frame_buffer_number.qb1_0 (Kr1 : St → Option frame_buffer_number.R) (kr1 : ((List Int) × Unit) → Int → Int → Option (((List Int) × Unit) × Unit)) (hK1 : ∀ (x0 : (List Int) × Unit) (x1 : Int) (x4 : Int), Kr1 [(0, some ⟨.box TbufferX, x0⟩), (1, some ⟨.int .u32, x1⟩), (4, some ⟨.int .i64, x4⟩)] = kr1 x0 x1 x4) (x0 : (List Int) × Unit) (x1 : Int) (x4 : Int) : frame_buffer_number.Kb1 Kr1 [(0, some ⟨.box TbufferX, x0⟩), (1, some ⟨.int .u32, x1⟩), (4, some ⟨.int .i64, x4⟩)] = kr1 (x0.1, x0.2) x1 x4 := (by kernel_rfl : _ = Kr1 [(0, some ⟨.box TbufferX, ((x0.1, x0.2) : (List Int) × Unit)⟩), (1, some ⟨.int .u32, x1⟩), (4, some ⟨.int .i64, x4⟩)]).trans (hK1 (x0.1, x0.2) x1 x4)
noncomputable def frame_buffer_number.j2 (n : Nat) (kr1 : ((List Int) × Unit) → Int → Int → Option (((List Int) × Unit) × Unit)) (x0 : (List Int) × Unit) (x1 : Int) (x4 : Int) : Option (((List Int) × Unit) × Unit) :=
  kr1 (x0.1, x0.2) x1 (IntKind.i64.wrap (x4 + (1 : Int)))
theorem frame_buffer_number.w2 (n : Nat) (Kr1 : St → Option frame_buffer_number.R) (x0 : (List Int) × Unit) (x1 : Int) (x4 : Int) : ev (frame_buffer_number.c2 n) [(0, some ⟨.box TbufferX, x0⟩), (1, some ⟨.int .u32, x1⟩), (4, some ⟨.int .i64, x4⟩)] (⟨retK frame_buffer_number.rs frame_buffer_number.ps frame_buffer_number.r, [(0, (retK frame_buffer_number.rs frame_buffer_number.ps frame_buffer_number.r))]⟩ : Ks frame_buffer_number.R) (frame_buffer_number.Kb1 Kr1) =
  ((frame_buffer_number.Kb1 Kr1) [(0, some ⟨.box TbufferX, x0⟩), (1, some ⟨.int .u32, x1⟩), (4, some ⟨.int .i64, (IntKind.i64.wrap (x4 + (1 : Int)))⟩)] : Option frame_buffer_number.R) := by kernel_rfl
theorem frame_buffer_number.s2 (n : Nat) (Kr1 : St → Option frame_buffer_number.R) (kr1 : ((List Int) × Unit) → Int → Int → Option (((List Int) × Unit) × Unit)) (hK1 : ∀ (x0 : (List Int) × Unit) (x1 : Int) (x4 : Int), Kr1 [(0, some ⟨.box TbufferX, x0⟩), (1, some ⟨.int .u32, x1⟩), (4, some ⟨.int .i64, x4⟩)] = kr1 x0 x1 x4) (x0 : (List Int) × Unit) (x1 : Int) (x4 : Int) : ev (frame_buffer_number.c2 n) [(0, some ⟨.box TbufferX, x0⟩), (1, some ⟨.int .u32, x1⟩), (4, some ⟨.int .i64, x4⟩)] (⟨retK frame_buffer_number.rs frame_buffer_number.ps frame_buffer_number.r, [(0, (retK frame_buffer_number.rs frame_buffer_number.ps frame_buffer_number.r))]⟩ : Ks frame_buffer_number.R) (frame_buffer_number.Kb1 Kr1) = frame_buffer_number.j2 n kr1 x0 x1 x4 := (frame_buffer_number.w2 n Kr1 x0 x1 x4).trans (by simp only [frame_buffer_number.j2, frame_buffer_number.qb1_0 Kr1 kr1 hK1] <;> kernel_rfl)
noncomputable def frame_buffer_number.K2 (n : Nat) (Kr1 : St → Option frame_buffer_number.R) : St → Option frame_buffer_number.R := fun st => ghK [.keep [0, 1, 4]] st fun st => ev (frame_buffer_number.c2 n) st (⟨retK frame_buffer_number.rs frame_buffer_number.ps frame_buffer_number.r, [(0, (retK frame_buffer_number.rs frame_buffer_number.ps frame_buffer_number.r))]⟩ : Ks frame_buffer_number.R) (frame_buffer_number.Kb1 Kr1)
noncomputable def frame_buffer_number.cb1 (n : Nat) : XC :=
  (.aft (.seq (.reg (.op (.bin 5 .lss (.t 4) (.c ⟨.int .i64, (4 : Int)⟩)) none <| .nil)) <|
  (.seq (.cond (.t 5)
  .skip
  (.exit 0)) <|
  (.seq (.aft (.block 1 (.seq (.reg (.op (.bor 6 0) none <| .op (.mv 7 (.t 1)) none <| .op (.cvt 8 (.int .u8) (.t 7)) none <| .op (.bsl 9 (.int .u8) [(.t 8)]) none <| .op (.call (some 10) (frame_buffer_byte.sp n) [.l 6, .v (.t 9)]) none <| .nil)) <|
  (.reg (.op (.mv 11 (.t 1)) none <| .op (.bin 12 .shr (.t 11) (.c ⟨.int .u64, (8 : Int)⟩)) none <| .op (.mv 1 (.t 12)) none <| .nil)))) [.keep [0, 1, 4]]) (frame_buffer_number.c2 n)))) [.keep [0, 1, 4]])
noncomputable def frame_buffer_number.l1 (n : Nat) : Nat → ((List Int) × Unit) → Int → Int → Option (((List Int) × Unit) × Unit)
  | 0, _, _, _ => none
  | k + 1, x0, x1, x4 =>
  bif (decide (x4 < (4 : Int))) then ((frame_buffer_byte.f n (x0.1, x0.2) ([(IntKind.u8.wrap x1)] : List Int)).bind fun r1 => geK (8 : Int) (frame_buffer_number.j2 n (frame_buffer_number.l1 n k) (r1.1.1, r1.1.2) (ishr IntKind.u32 x1 ((8 : Int)).toNat) x4))
  else (some ((x0.1, x0.2), ()))
theorem frame_buffer_number.wb1 (n : Nat) (Kr1 : St → Option frame_buffer_number.R) (x0 : (List Int) × Unit) (x1 : Int) (x4 : Int) : ev (frame_buffer_number.cb1 n) (keepSt [(0, some ⟨.box TbufferX, x0⟩), (1, some ⟨.int .u32, x1⟩), (4, some ⟨.int .i64, x4⟩)] [0, 1, 4]) (⟨retK frame_buffer_number.rs frame_buffer_number.ps frame_buffer_number.r, [(0, (retK frame_buffer_number.rs frame_buffer_number.ps frame_buffer_number.r))]⟩ : Ks frame_buffer_number.R) Kr1 =
  (bif (decide (x4 < (4 : Int))) then ((frame_buffer_byte.f n (x0.1, x0.2) ([(IntKind.u8.wrap x1)] : List Int)).bind fun r1 => geK (8 : Int) (ev (frame_buffer_number.c2 n) [(0, some ⟨.box TbufferX, ((r1.1.1, r1.1.2) : (List Int) × Unit)⟩), (1, some ⟨.int .u32, (ishr IntKind.u32 x1 ((8 : Int)).toNat)⟩), (4, some ⟨.int .i64, x4⟩)] (⟨retK frame_buffer_number.rs frame_buffer_number.ps frame_buffer_number.r, [(0, (retK frame_buffer_number.rs frame_buffer_number.ps frame_buffer_number.r))]⟩ : Ks frame_buffer_number.R) (frame_buffer_number.Kb1 Kr1)))
  else (some ((x0.1, x0.2), ())) : Option frame_buffer_number.R) := by kernel_rfl
theorem frame_buffer_number.l1_ok (n : Nat) (k : Nat) : ∀ (x0 : (List Int) × Unit) (x1 : Int) (x4 : Int), loopEv [0, 1, 4] (fun s K => ev (frame_buffer_number.cb1 n) s (⟨retK frame_buffer_number.rs frame_buffer_number.ps frame_buffer_number.r, [(0, (retK frame_buffer_number.rs frame_buffer_number.ps frame_buffer_number.r))]⟩ : Ks frame_buffer_number.R) K) k [(0, some ⟨.box TbufferX, x0⟩), (1, some ⟨.int .u32, x1⟩), (4, some ⟨.int .i64, x4⟩)] = frame_buffer_number.l1 n k x0 x1 x4 := by
  induction k with
  | zero => intros; rfl
  | succ k ih =>
    intro x0 x1 x4
    exact (frame_buffer_number.wb1 n (fun st => loopEv [0, 1, 4] (fun s K => ev (frame_buffer_number.cb1 n) s (⟨retK frame_buffer_number.rs frame_buffer_number.ps frame_buffer_number.r, [(0, (retK frame_buffer_number.rs frame_buffer_number.ps frame_buffer_number.r))]⟩ : Ks frame_buffer_number.R) K) k st) x0 x1 x4).trans (by simp only [frame_buffer_number.l1, frame_buffer_number.s2 n (fun st => loopEv [0, 1, 4] (fun s K => ev (frame_buffer_number.cb1 n) s (⟨retK frame_buffer_number.rs frame_buffer_number.ps frame_buffer_number.r, [(0, (retK frame_buffer_number.rs frame_buffer_number.ps frame_buffer_number.r))]⟩ : Ks frame_buffer_number.R) K) k st) (frame_buffer_number.l1 n k) ih] <;> kernel_rfl)
noncomputable def frame_buffer_number.c (n : Nat) : XC :=
  (.seq (.reg (.op (.mv 4 (.c ⟨.int .i64, (0 : Int)⟩)) none <| .nil)) <|
  (.block 0 (.pre [.keep [0, 1, 4]] (.loop n [0, 1, 4] (frame_buffer_number.cb1 n)))))
noncomputable def frame_buffer_number.f (n : Nat) (a0 : (List Int) × Unit) (a1 : Int) : Option (((List Int) × Unit) × Unit) :=
  frame_buffer_number.l1 n n (a0.1, a0.2) a1 0
theorem frame_buffer_number.w (n : Nat) (a0 : (List Int) × Unit) (a1 : Int) : evFn (frame_buffer_number.c n) frame_buffer_number.rs frame_buffer_number.ps frame_buffer_number.r (a0, a1, ()) =
  (loopEv [0, 1, 4] (fun s K => ev (frame_buffer_number.cb1 n) s (⟨retK frame_buffer_number.rs frame_buffer_number.ps frame_buffer_number.r, [(0, (retK frame_buffer_number.rs frame_buffer_number.ps frame_buffer_number.r))]⟩ : Ks frame_buffer_number.R) K) n [(0, some ⟨.box TbufferX, ((a0.1, a0.2) : (List Int) × Unit)⟩), (1, some ⟨.int .u32, a1⟩), (4, some ⟨.int .i64, (0 : Int)⟩)] : Option frame_buffer_number.R) := by kernel_rfl
theorem frame_buffer_number.ok (n : Nat) (a0 : (List Int) × Unit) (a1 : Int) : evFn (frame_buffer_number.c n) frame_buffer_number.rs frame_buffer_number.ps frame_buffer_number.r (a0, a1, ()) = frame_buffer_number.f n a0 a1 := (frame_buffer_number.w n a0 a1).trans (by simp only [frame_buffer_number.f, frame_buffer_number.l1_ok n] <;> kernel_rfl)
noncomputable def frame_buffer_number.sp (n : Nat) : FSpec := { f := 24, ps := frame_buffer_number.ps, r := frame_buffer_number.r, run := fun x => frame_buffer_number.f n x.1 x.2.1 }
theorem frame_buffer_number.calls (n : Nat) : (frame_buffer_number.c n).calls = [frame_buffer_byte.sp n] := by kernel_rfl
theorem frame_buffer_number.fits (n : Nat) : fnB tab hd Try.f24 (frame_buffer_number.c n) frame_buffer_number.rs (frame_buffer_number.sp n).ps (frame_buffer_number.sp n).r = true := by kernel_rfl
theorem frame_buffer_number.sound (n : Nat) : Sound Try.prog (frame_buffer_number.sp n) := by
  refine fnB_sound tabOk eqFacts mixed (fn := Try.f24) (c := frame_buffer_number.c n) (rs := frame_buffer_number.rs) (by kernel_rfl) ?_ (frame_buffer_number.fits n) ?_
  · rw [frame_buffer_number.calls]
    intro s hs
    simp only [List.mem_cons, List.not_mem_nil, or_false] at hs
    rcases hs with rfl
    · exact frame_buffer_byte.sound n
  · rintro ⟨a0, a1, ⟨⟩⟩ y h
    exact (frame_buffer_number.ok n a0 a1).trans h
/-! backwater/bits.Fold -/
abbrev bits_Fold.ps : List (Ty × Bool) := [(.slB .U false (.int .u8), false)]
abbrev bits_Fold.r : Ty := .int .u32
abbrev bits_Fold.rs : List RV := [.t 2]
abbrev bits_Fold.R : Type := (rtOf bits_Fold.ps bits_Fold.r).den
noncomputable def bits_Fold.c1 (n : Nat) : XC :=
  (.seq (.reg (.op (.mv 20 (.t 3)) none <| .op (.mv 2 (.t 20)) none <| .nil)) <|
  .ret)
noncomputable def bits_Fold.j1 (n : Nat) (x3 : Int) : Option Int :=
  some x3
theorem bits_Fold.s1 (n : Nat) (x3 : Int) : ev (bits_Fold.c1 n) [(3, some ⟨.int .u32, x3⟩)] (⟨retK bits_Fold.rs bits_Fold.ps bits_Fold.r, []⟩ : Ks bits_Fold.R) (retK bits_Fold.rs bits_Fold.ps bits_Fold.r) = bits_Fold.j1 n x3 := by kernel_rfl
noncomputable def bits_Fold.K1 (n : Nat) : St → Option bits_Fold.R := fun st => ghK [.keep [3]] st fun st => ev (bits_Fold.c1 n) st (⟨retK bits_Fold.rs bits_Fold.ps bits_Fold.r, []⟩ : Ks bits_Fold.R) (retK bits_Fold.rs bits_Fold.ps bits_Fold.r)
noncomputable def bits_Fold.Kb2 (Kr2 : St → Option bits_Fold.R) : St → Option bits_Fold.R := fun st => ghK [.keep [0, 3, 6, 7]] st Kr2
noncomputable def bits_Fold.c3 (n : Nat) : XC :=
  (.aft (.reg (.op (.bin 19 .add (.t 7) (.c ⟨.int .i64, (1 : Int)⟩)) none <| .op (.mv 7 (.t 19)) none <| .nil)) [.keep [0, 3, 6, 7]])
theorem bits_Fold.qb2_0 (Kr2 : St → Option bits_Fold.R) (kr2 : (List Int) → Int → Int → Int → Option Int) (hK2 : ∀ (x0 : List Int) (x3 : Int) (x6 : Int) (x7 : Int), Kr2 [(0, some ⟨.slB .U false (.int .u8), x0⟩), (3, some ⟨.int .u32, x3⟩), (6, some ⟨.int .i64, x6⟩), (7, some ⟨.int .i64, x7⟩)] = kr2 x0 x3 x6 x7) (x0 : List Int) (x3 : Int) (x6 : Int) (x7 : Int) : bits_Fold.Kb2 Kr2 [(0, some ⟨.slB .U false (.int .u8), x0⟩), (3, some ⟨.int .u32, x3⟩), (6, some ⟨.int .i64, x6⟩), (7, some ⟨.int .i64, x7⟩)] = kr2 x0 x3 x6 x7 := (by kernel_rfl : _ = Kr2 [(0, some ⟨.slB .U false (.int .u8), x0⟩), (3, some ⟨.int .u32, x3⟩), (6, some ⟨.int .i64, x6⟩), (7, some ⟨.int .i64, x7⟩)]).trans (hK2 x0 x3 x6 x7)
noncomputable def bits_Fold.j3 (n : Nat) (kr2 : (List Int) → Int → Int → Int → Option Int) (x0 : List Int) (x3 : Int) (x6 : Int) (x7 : Int) : Option Int :=
  kr2 x0 x3 x6 (IntKind.i64.wrap (x7 + (1 : Int)))
theorem bits_Fold.w3 (n : Nat) (Kr2 : St → Option bits_Fold.R) (x0 : List Int) (x3 : Int) (x6 : Int) (x7 : Int) : ev (bits_Fold.c3 n) [(0, some ⟨.slB .U false (.int .u8), x0⟩), (3, some ⟨.int .u32, x3⟩), (6, some ⟨.int .i64, x6⟩), (7, some ⟨.int .i64, x7⟩)] (⟨retK bits_Fold.rs bits_Fold.ps bits_Fold.r, [(0, (bits_Fold.K1 n))]⟩ : Ks bits_Fold.R) (bits_Fold.Kb2 Kr2) =
  ((bits_Fold.Kb2 Kr2) [(0, some ⟨.slB .U false (.int .u8), x0⟩), (3, some ⟨.int .u32, x3⟩), (6, some ⟨.int .i64, x6⟩), (7, some ⟨.int .i64, (IntKind.i64.wrap (x7 + (1 : Int)))⟩)] : Option bits_Fold.R) := by kernel_rfl
theorem bits_Fold.s3 (n : Nat) (Kr2 : St → Option bits_Fold.R) (kr2 : (List Int) → Int → Int → Int → Option Int) (hK2 : ∀ (x0 : List Int) (x3 : Int) (x6 : Int) (x7 : Int), Kr2 [(0, some ⟨.slB .U false (.int .u8), x0⟩), (3, some ⟨.int .u32, x3⟩), (6, some ⟨.int .i64, x6⟩), (7, some ⟨.int .i64, x7⟩)] = kr2 x0 x3 x6 x7) (x0 : List Int) (x3 : Int) (x6 : Int) (x7 : Int) : ev (bits_Fold.c3 n) [(0, some ⟨.slB .U false (.int .u8), x0⟩), (3, some ⟨.int .u32, x3⟩), (6, some ⟨.int .i64, x6⟩), (7, some ⟨.int .i64, x7⟩)] (⟨retK bits_Fold.rs bits_Fold.ps bits_Fold.r, [(0, (bits_Fold.K1 n))]⟩ : Ks bits_Fold.R) (bits_Fold.Kb2 Kr2) = bits_Fold.j3 n kr2 x0 x3 x6 x7 := (bits_Fold.w3 n Kr2 x0 x3 x6 x7).trans (by simp only [bits_Fold.j3, bits_Fold.qb2_0 Kr2 kr2 hK2] <;> kernel_rfl)
noncomputable def bits_Fold.K3 (n : Nat) (Kr2 : St → Option bits_Fold.R) : St → Option bits_Fold.R := fun st => ghK [.keep [0, 3, 6, 7]] st fun st => ev (bits_Fold.c3 n) st (⟨retK bits_Fold.rs bits_Fold.ps bits_Fold.r, [(0, (bits_Fold.K1 n))]⟩ : Ks bits_Fold.R) (bits_Fold.Kb2 Kr2)
noncomputable def bits_Fold.cb2 (n : Nat) : XC :=
  (.aft (.seq (.reg (.op (.bin 8 .lss (.t 7) (.t 6)) none <| .nil)) <|
  (.seq (.cond (.t 8)
  .skip
  (.pre [.keep [3]] (.exit 0))) <|
  (.seq (.aft (.block 1 (.seq (.reg (.op (.mv 9 (.t 7)) none <| .op (.mv 4 (.t 9)) none <| .nil)) <|
  (.seq (.reg (.op (.mv 10 (.t 3)) none <| .op (.mv 11 (.t 0)) none <| .op (.mv 12 (.t 4)) none <| .op (.idxA 13 (.t 11) (.t 12) 1 0) none <| .op (.ld 14 13 1 false) none <| .op (.cvt 15 (.int .u32) (.t 14)) none <| .op (.bin 16 .xor (.t 10) (.t 15)) none <| .op (.mv 3 (.t 16)) none <| .nil)) <|
  (.reg (.op (.mv 17 (.t 3)) none <| .op (.bin 18 .mul (.t 17) (.c ⟨.int .u32, (16777619 : Int)⟩)) none <| .op (.mv 3 (.t 18)) none <| .nil))))) [.keep [0, 3, 6, 7]]) (bits_Fold.c3 n)))) [.keep [0, 3, 6, 7]])
theorem bits_Fold.q1_0 (n : Nat) (x3 : Int) : bits_Fold.K1 n [(3, some ⟨.int .u32, x3⟩)] = bits_Fold.j1 n x3 := (by kernel_rfl : _ = ev (bits_Fold.c1 n) [(3, some ⟨.int .u32, x3⟩)] (⟨retK bits_Fold.rs bits_Fold.ps bits_Fold.r, []⟩ : Ks bits_Fold.R) (retK bits_Fold.rs bits_Fold.ps bits_Fold.r)).trans (bits_Fold.s1 n x3)
noncomputable def bits_Fold.l2 (n : Nat) : Nat → (List Int) → Int → Int → Int → Option Int
  | 0, _, _, _, _ => none
  | k + 1, x0, x3, x6, x7 =>
  bif (decide (x7 < x6)) then (idxK x0 x7 fun e1 => bits_Fold.j3 n (bits_Fold.l2 n k) x0 (IntKind.u32.wrap ((ixor IntKind.u32 x3 (IntKind.u32.wrap e1)) * (16777619 : Int))) x6 x7)
  else (bits_Fold.j1 n x3)
theorem bits_Fold.wb2 (n : Nat) (Kr2 : St → Option bits_Fold.R) (x0 : List Int) (x3 : Int) (x6 : Int) (x7 : Int) : ev (bits_Fold.cb2 n) (keepSt [(0, some ⟨.slB .U false (.int .u8), x0⟩), (3, some ⟨.int .u32, x3⟩), (6, some ⟨.int .i64, x6⟩), (7, some ⟨.int .i64, x7⟩)] [0, 3, 6, 7]) (⟨retK bits_Fold.rs bits_Fold.ps bits_Fold.r, [(0, (bits_Fold.K1 n))]⟩ : Ks bits_Fold.R) Kr2 =
  (bif (decide (x7 < x6)) then (idxK x0 x7 fun e1 => ev (bits_Fold.c3 n) [(0, some ⟨.slB .U false (.int .u8), x0⟩), (3, some ⟨.int .u32, (IntKind.u32.wrap ((ixor IntKind.u32 x3 (IntKind.u32.wrap e1)) * (16777619 : Int)))⟩), (6, some ⟨.int .i64, x6⟩), (7, some ⟨.int .i64, x7⟩)] (⟨retK bits_Fold.rs bits_Fold.ps bits_Fold.r, [(0, (bits_Fold.K1 n))]⟩ : Ks bits_Fold.R) (bits_Fold.Kb2 Kr2))
  else ((bits_Fold.K1 n) [(3, some ⟨.int .u32, x3⟩)]) : Option bits_Fold.R) := by kernel_rfl
theorem bits_Fold.l2_ok (n : Nat) (k : Nat) : ∀ (x0 : List Int) (x3 : Int) (x6 : Int) (x7 : Int), loopEv [0, 3, 6, 7] (fun s K => ev (bits_Fold.cb2 n) s (⟨retK bits_Fold.rs bits_Fold.ps bits_Fold.r, [(0, (bits_Fold.K1 n))]⟩ : Ks bits_Fold.R) K) k [(0, some ⟨.slB .U false (.int .u8), x0⟩), (3, some ⟨.int .u32, x3⟩), (6, some ⟨.int .i64, x6⟩), (7, some ⟨.int .i64, x7⟩)] = bits_Fold.l2 n k x0 x3 x6 x7 := by
  induction k with
  | zero => intros; rfl
  | succ k ih =>
    intro x0 x3 x6 x7
    exact (bits_Fold.wb2 n (fun st => loopEv [0, 3, 6, 7] (fun s K => ev (bits_Fold.cb2 n) s (⟨retK bits_Fold.rs bits_Fold.ps bits_Fold.r, [(0, (bits_Fold.K1 n))]⟩ : Ks bits_Fold.R) K) k st) x0 x3 x6 x7).trans (by simp only [bits_Fold.l2, bits_Fold.s3 n (fun st => loopEv [0, 3, 6, 7] (fun s K => ev (bits_Fold.cb2 n) s (⟨retK bits_Fold.rs bits_Fold.ps bits_Fold.r, [(0, (bits_Fold.K1 n))]⟩ : Ks bits_Fold.R) K) k st) (bits_Fold.l2 n k) ih, bits_Fold.q1_0 n] <;> kernel_rfl)
noncomputable def bits_Fold.c (n : Nat) : XC :=
  (.seq (.reg (.op (.mv 2 (.c ⟨.int .u32, (0 : Int)⟩)) none <| .nil)) <|
  (.seq (.reg (.op (.mv 3 (.c ⟨.int .u32, (2166136261 : Int)⟩)) none <| .nil)) <|
  (.seq (.aft (.seq (.reg (.op (.mv 5 (.t 0)) none <| .op (.len 6 (.t 5) false) none <| .op (.mv 7 (.c ⟨.int .i64, (0 : Int)⟩)) none <| .nil)) <|
  (.block 0 (.pre [.keep [0, 3, 6, 7]] (.loop n [0, 3, 6, 7] (bits_Fold.cb2 n))))) [.keep [3]]) (bits_Fold.c1 n))))
noncomputable def bits_Fold.f (n : Nat) (a0 : List Int) : Option Int :=
  bits_Fold.l2 n n a0 2166136261 (a0.length : Int) 0
theorem bits_Fold.w (n : Nat) (a0 : List Int) : evFn (bits_Fold.c n) bits_Fold.rs bits_Fold.ps bits_Fold.r (a0, ()) =
  (loopEv [0, 3, 6, 7] (fun s K => ev (bits_Fold.cb2 n) s (⟨retK bits_Fold.rs bits_Fold.ps bits_Fold.r, [(0, (bits_Fold.K1 n))]⟩ : Ks bits_Fold.R) K) n [(0, some ⟨.slB .U false (.int .u8), a0⟩), (3, some ⟨.int .u32, (2166136261 : Int)⟩), (6, some ⟨.int .i64, (a0.length : Int)⟩), (7, some ⟨.int .i64, (0 : Int)⟩)] : Option bits_Fold.R) := by kernel_rfl
theorem bits_Fold.ok (n : Nat) (a0 : List Int) : evFn (bits_Fold.c n) bits_Fold.rs bits_Fold.ps bits_Fold.r (a0, ()) = bits_Fold.f n a0 := (bits_Fold.w n a0).trans (by simp only [bits_Fold.f, bits_Fold.l2_ok n] <;> kernel_rfl)
noncomputable def bits_Fold.sp (n : Nat) : FSpec := { f := 25, ps := bits_Fold.ps, r := bits_Fold.r, run := fun x => bits_Fold.f n x.1 }
theorem bits_Fold.calls (n : Nat) : (bits_Fold.c n).calls = [] := by kernel_rfl
theorem bits_Fold.fits (n : Nat) : fnB tab hd Try.f25 (bits_Fold.c n) bits_Fold.rs (bits_Fold.sp n).ps (bits_Fold.sp n).r = true := by kernel_rfl
theorem bits_Fold.sound (n : Nat) : Sound Try.prog (bits_Fold.sp n) := by
  refine fnB_sound tabOk eqFacts mixed (fn := Try.f25) (c := bits_Fold.c n) (rs := bits_Fold.rs) (by kernel_rfl) ?_ (bits_Fold.fits n) ?_
  · rw [bits_Fold.calls]
    intro s hs; cases hs
  · rintro ⟨a0, ⟨⟩⟩ y h
    exact (bits_Fold.ok n a0).trans h
/-! backwater/frame.Encode -/
abbrev frame_Encode.ps : List (Ty × Bool) := [(TPacket, false)]
abbrev frame_Encode.r : Ty := .tup (.pair (.slX .U (.int .u8)) (.pair (.int .i64) .unit))
abbrev frame_Encode.rs : List RV := [.t 2, .t 3]
abbrev frame_Encode.R : Type := (rtOf frame_Encode.ps frame_Encode.r).den
noncomputable def frame_Encode.c (n : Nat) : XC :=
  (.seq (.reg (.op (.boxv 1 (.t 0)) none <| .op (.mv 2 (.c ⟨.nil 0, ()⟩)) none <| .op (.mv 3 (.c ⟨.int .i64, (0 : Int)⟩)) none <| .nil)) <|
  (.seq (.seq (.reg (.op (.ld 5 1 6 true) none <| .op (.call (some 6) (frame_Right.sp n) [.v (.t 5)]) none <| .op (.un 7 .not (.t 6)) none <| .nil)) <|
  (.cond (.t 7)
  (.seq (.reg (.op (.mv 2 (.c ⟨.nil 0, ()⟩)) none <| .op (.mv 3 (.c ⟨.int .i64, (3 : Int)⟩)) none <| .nil)) <|
  .ret)
  .skip)) <|
  (.seq (.reg (.op (.alloc 4 ⟨.pair (.pair (.slX .N (.int .u8)) .unit) .unit, (((([] : List Int), ()), ()) : ((List Int) × Unit) × Unit)⟩) none <| .nil)) <|
  (.seq (.reg (.op (.fa 8 4 0 0) none <| .op (.fa 9 1 0 0) none <| .op (.ld 10 9 1 false) none <| .op (.fa 11 1 1 1) none <| .op (.ld 12 11 1 false) none <| .op (.fa 13 1 2 2) none <| .op (.ld 14 13 1 false) none <| .op (.bsl 15 (.int .u8) [(.c ⟨.int .u8, (66 : Int)⟩), (.c ⟨.int .u8, (87 : Int)⟩), (.t 10), (.t 12), (.t 14)]) none <| .op (.call (some 16) (frame_buffer_byte.sp n) [.l 8, .v (.t 15)]) none <| .nil)) <|
  (.seq (.pre [.keep [1, 4]] (.reg (.op (.fa 17 4 0 0) none <| .op (.fa 18 1 3 3) none <| .op (.ld 19 18 1 false) none <| .op (.call (some 20) (frame_buffer_number.sp n) [.l 17, .v (.t 19)]) none <| .nil))) <|
  (.seq (.reg (.op (.fa 21 4 0 0) none <| .op (.fa 22 1 4 4) none <| .op (.ld 23 22 1 false) none <| .op (.call (some 24) (frame_buffer_number.sp n) [.l 21, .v (.t 23)]) none <| .nil)) <|
  (.seq (.reg (.op (.fa 25 4 0 0) none <| .op (.fa 26 1 5 5) none <| .op (.ld 27 26 1 false) none <| .op (.len 28 (.t 27) true) none <| .op (.cvt 29 (.int .u8) (.t 28)) none <| .op (.fa 30 1 5 5) none <| .op (.ld 31 30 1 false) none <| .op (.len 32 (.t 31) true) none <| .op (.bin 33 .shr (.t 32) (.c ⟨.int .u64, (8 : Int)⟩)) none <| .op (.cvt 34 (.int .u8) (.t 33)) none <| .op (.bsl 35 (.int .u8) [(.t 29), (.t 34)]) none <| .op (.call (some 36) (frame_buffer_byte.sp n) [.l 25, .v (.t 35)]) none <| .nil)) <|
  (.seq (.pre [.keep [1, 4]] (.reg (.op (.fa 37 4 0 0) none <| .op (.fa 38 1 5 5) none <| .op (.ld 39 38 1 false) none <| .op (.cvt 40 .s2b (.t 39)) none <| .op (.call (some 41) (frame_buffer_byte.sp n) [.l 37, .v (.t 40)]) none <| .nil))) <|
  (.seq (.reg (.op (.fa 42 4 0 0) none <| .op (.fa 43 4 0 0) none <| .op (.fa 44 43 0 0) none <| .op (.ld 45 44 1 false) none <| .op (.call (some 46) (bits_Fold.sp n) [.v (.t 45)]) none <| .op (.call (some 47) (frame_buffer_number.sp n) [.l 42, .v (.t 46)]) none <| .nil)) <|
  (.seq (.pre [.keep [4]] (.reg (.op (.fa 48 4 0 0) none <| .op (.fa 49 48 0 0) none <| .op (.ldT 50 49 1 false) none <| .op (.take 2 50) none <| .op (.mv 3 (.c ⟨.int .i64, (0 : Int)⟩)) none <| .nil))) <|
  .ret))))))))))
noncomputable def frame_Encode.f (n : Nat) (a0 : DPacket) : Option ((List Int) × Int × Unit) :=
  (frame_Right.f n (a0.1, a0.2.1, a0.2.2.1, a0.2.2.2.1, a0.2.2.2.2.1, a0.2.2.2.2.2.1, a0.2.2.2.2.2.2)).bind fun r1 => bif (!r1) then (some (([] : List Int), 3, ()))
  else ((frame_buffer_byte.f n (([] : List Int), ()) ([66, 87, a0.1, a0.2.1, a0.2.2.1] : List Int)).bind fun r2 => (frame_buffer_number.f n (r2.1.1, r2.1.2) a0.2.2.2.1).bind fun r3 => (frame_buffer_number.f n (r3.1.1, r3.1.2) a0.2.2.2.2.1).bind fun r4 => geK (8 : Int) ((frame_buffer_byte.f n (r4.1.1, r4.1.2) ([(IntKind.u8.wrap (a0.2.2.2.2.2.1.length : Int)), (IntKind.u8.wrap (ishr IntKind.i64 (a0.2.2.2.2.2.1.length : Int) ((8 : Int)).toNat))] : List Int)).bind fun r5 => (frame_buffer_byte.f n (r5.1.1, r5.1.2) a0.2.2.2.2.2.1).bind fun r6 => (bits_Fold.f n r6.1.1).bind fun r7 => (frame_buffer_number.f n (r6.1.1, r6.1.2) r7).bind fun r8 => some (r8.1.1, 0, ())))
theorem frame_Encode.ok (n : Nat) (a0 : DPacket) : evFn (frame_Encode.c n) frame_Encode.rs frame_Encode.ps frame_Encode.r (a0, ()) = frame_Encode.f n a0 := by kernel_rfl
noncomputable def frame_Encode.sp (n : Nat) : FSpec := { f := 10, ps := frame_Encode.ps, r := frame_Encode.r, run := fun x => frame_Encode.f n x.1 }
theorem frame_Encode.calls (n : Nat) : (frame_Encode.c n).calls = [frame_Right.sp n, frame_buffer_byte.sp n, frame_buffer_number.sp n, frame_buffer_number.sp n, frame_buffer_byte.sp n, frame_buffer_byte.sp n, bits_Fold.sp n, frame_buffer_number.sp n] := by kernel_rfl
theorem frame_Encode.fits (n : Nat) : fnB tab hd Try.f10 (frame_Encode.c n) frame_Encode.rs (frame_Encode.sp n).ps (frame_Encode.sp n).r = true := by kernel_rfl
theorem frame_Encode.sound (n : Nat) : Sound Try.prog (frame_Encode.sp n) := by
  refine fnB_sound tabOk eqFacts mixed (fn := Try.f10) (c := frame_Encode.c n) (rs := frame_Encode.rs) (by kernel_rfl) ?_ (frame_Encode.fits n) ?_
  · rw [frame_Encode.calls]
    intro s hs
    simp only [List.mem_cons, List.not_mem_nil, or_false] at hs
    rcases hs with rfl | rfl | rfl | rfl | rfl | rfl | rfl | rfl
    · exact frame_Right.sound n
    · exact frame_buffer_byte.sound n
    · exact frame_buffer_number.sound n
    · exact frame_buffer_number.sound n
    · exact frame_buffer_byte.sound n
    · exact frame_buffer_byte.sound n
    · exact bits_Fold.sound n
    · exact frame_buffer_number.sound n
  · rintro ⟨a0, ⟨⟩⟩ y h
    exact (frame_Encode.ok n a0).trans h
/-! backwater/backwaterref03.Right -/
abbrev r03_Right.ps : List (Ty × Bool) := [(TPacket, false)]
abbrev r03_Right.r : Ty := .bool
abbrev r03_Right.rs : List RV := [.t 2]
abbrev r03_Right.R : Type := (rtOf r03_Right.ps r03_Right.r).den
noncomputable def r03_Right.c (n : Nat) : XC :=
  (.seq (.reg (.op (.boxv 1 (.t 0)) none <| .op (.mv 2 (.c ⟨.bool, (false : Bool)⟩)) none <| .nil)) <|
  (.seq (.seq (.reg (.op (.fa 3 1 1 1) none <| .op (.ld 4 3 1 false) none <| .op (.bin 5 .gtr (.t 4) (.c ⟨.int .u8, (3 : Int)⟩)) none <| .op (.mv 6 (.t 5)) none <| .grp 6 false (.op (.fa 7 1 2 2) (some ([1, 6, 7], [7])) <| .op (.ld 8 7 1 false) (some ([1, 6, 7, 8], [8])) <| .op (.bin 9 .gtr (.t 8) (.c ⟨.int .u8, (3 : Int)⟩)) (some ([6, 8, 9], [9])) <| .nil) 9 10 [7, 8, 9] <| .op (.mv 11 (.t 10)) none <| .grp 11 false (.op (.fa 12 1 4 4) (some ([1, 11, 12], [12])) <| .op (.ld 13 12 1 false) (some ([1, 11, 12, 13], [13])) <| .op (.bin 14 .eql (.t 13) (.c ⟨.int .u32, (0 : Int)⟩)) (some ([11, 13, 14], [14])) <| .nil) 14 15 [12, 13, 14] <| .op (.mv 16 (.t 15)) none <| .grp 16 false (.op (.fa 17 1 5 5) (some ([1, 16, 17], [17])) <| .op (.ld 18 17 1 false) (some ([1, 16, 17, 18], [18])) <| .op (.len 19 (.t 18) true) (some ([16, 18, 19], [19])) <| .op (.bin 20 .gtr (.t 19) (.c ⟨.int .i64, (16384 : Int)⟩)) (some ([16, 19, 20], [20])) <| .nil) 20 21 [17, 18, 19, 20] <| .nil)) <|
  (.cond (.t 21)
  (.seq (.pre [.keep []] (.reg (.op (.mv 2 (.c ⟨.bool, (false : Bool)⟩)) none <| .nil))) <|
  .ret)
  .skip)) <|
  (.seq (.pre [.keep [1]] (.reg (.op (.fa 22 1 0 0) none <| .op (.ld 23 22 1 false) none <| .op (.bin 24 .eql (.t 23) (.c ⟨.int .u8, (1 : Int)⟩)) none <| .op (.mv 25 (.t 24)) none <| .grp 25 true (.op (.fa 26 1 2 2) (some ([1, 25, 26], [26])) <| .op (.ld 27 26 1 false) (some ([1, 25, 26, 27], [27])) <| .op (.bin 28 .eql (.t 27) (.c ⟨.int .u8, (0 : Int)⟩)) (some ([25, 27, 28], [28])) <| .nil) 28 29 [26, 27, 28] <| .op (.mv 30 (.t 29)) none <| .grp 30 true (.op (.fa 31 1 1 1) (some ([1, 30, 31], [31])) <| .op (.ld 32 31 1 false) (some ([1, 30, 31, 32], [32])) <| .op (.bin 33 .neq (.t 32) (.c ⟨.int .u8, (0 : Int)⟩)) (some ([30, 32, 33], [33])) <| .nil) 33 34 [31, 32, 33] <| .op (.mv 35 (.t 34)) none <| .grp 35 false (.op (.fa 36 1 0 0) (some ([1, 35, 36], [36])) <| .op (.ld 37 36 1 false) (some ([1, 35, 36, 37], [37])) <| .op (.bin 38 .eql (.t 37) (.c ⟨.int .u8, (2 : Int)⟩)) (some ([35, 37, 38], [38])) <| .op (.mv 39 (.t 38)) (some ([35, 38, 39], [39])) <| .grp 39 true (.op (.fa 40 1 1 1) (some ([1, 39, 40], [40])) <| .op (.ld 41 40 1 false) (some ([1, 39, 40, 41], [41])) <| .op (.bin 42 .eql (.t 41) (.c ⟨.int .u8, (0 : Int)⟩)) (some ([39, 41, 42], [42])) <| .nil) 42 43 [40, 41, 42] <| .op (.mv 44 (.t 43)) (some ([35, 43, 44], [44])) <| .grp 44 true (.op (.fa 45 1 2 2) (some ([1, 44, 45], [45])) <| .op (.ld 46 45 1 false) (some ([1, 44, 45, 46], [46])) <| .op (.bin 47 .neq (.t 46) (.c ⟨.int .u8, (0 : Int)⟩)) (some ([44, 46, 47], [47])) <| .nil) 47 48 [45, 46, 47] <| .nil) 48 49 [36, 37, 38, 39, 40, 41, 42, 43, 44, 45, 46, 47, 48] <| .op (.mv 2 (.t 49)) none <| .nil))) <|
  .ret)))
noncomputable def r03_Right.f (n : Nat) (a0 : DPacket) : Option Bool :=
  (bif (decide ((3 : Int) < a0.2.1)) then some true else (some (decide ((3 : Int) < a0.2.2.1)))).bind fun g1 =>
  (bif g1 then some true else (some (decide (a0.2.2.2.2.1 = (0 : Int))))).bind fun g2 =>
  (bif g2 then some true else (some (decide ((16384 : Int) < (a0.2.2.2.2.2.1.length : Int))))).bind fun g3 =>
  bif g3 then (some false)
  else ((bif (decide (a0.1 = (1 : Int))) then (some (decide (a0.2.2.1 = (0 : Int)))) else some false).bind fun g4 =>
  (bif g4 then (some (!decide (a0.2.1 = (0 : Int)))) else some false).bind fun g5 =>
  (bif g5 then some true else ((bif (decide (a0.1 = (2 : Int))) then (some (decide (a0.2.1 = (0 : Int)))) else some false).bind fun g7 =>
  (bif g7 then (some (!decide (a0.2.2.1 = (0 : Int)))) else some false).bind fun g8 =>
  some g8)).bind fun g6 =>
  some g6)
theorem r03_Right.ok (n : Nat) (a0 : DPacket) : evFn (r03_Right.c n) r03_Right.rs r03_Right.ps r03_Right.r (a0, ()) = r03_Right.f n a0 := by kernel_rfl
noncomputable def r03_Right.sp (n : Nat) : FSpec := { f := 14, ps := r03_Right.ps, r := r03_Right.r, run := fun x => r03_Right.f n x.1 }
theorem r03_Right.calls (n : Nat) : (r03_Right.c n).calls = [] := by kernel_rfl
theorem r03_Right.fits (n : Nat) : fnB tab hd Try.f14 (r03_Right.c n) r03_Right.rs (r03_Right.sp n).ps (r03_Right.sp n).r = true := by kernel_rfl
theorem r03_Right.sound (n : Nat) : Sound Try.prog (r03_Right.sp n) := by
  refine fnB_sound tabOk eqFacts mixed (fn := Try.f14) (c := r03_Right.c n) (rs := r03_Right.rs) (by kernel_rfl) ?_ (r03_Right.fits n) ?_
  · rw [r03_Right.calls]
    intro s hs; cases hs
  · rintro ⟨a0, ⟨⟩⟩ y h
    exact (r03_Right.ok n a0).trans h
/-! backwater/backwaterref03.four -/
abbrev r03_four.ps : List (Ty × Bool) := [(.int .u32, false)]
abbrev r03_four.r : Ty := .slX .S (.int .u8)
abbrev r03_four.rs : List RV := [.t 2]
abbrev r03_four.R : Type := (rtOf r03_four.ps r03_four.r).den
noncomputable def r03_four.c (n : Nat) : XC :=
  (.seq (.reg (.op (.mv 2 (.c ⟨.nil 0, ()⟩)) none <| .nil)) <|
  (.seq (.reg (.op (.mv 3 (.t 0)) none <| .op (.cvt 4 (.int .u8) (.t 3)) none <| .op (.mv 5 (.t 0)) none <| .op (.bin 6 .shr (.t 5) (.c ⟨.int .u64, (8 : Int)⟩)) none <| .op (.cvt 7 (.int .u8) (.t 6)) none <| .op (.mv 8 (.t 0)) none <| .op (.bin 9 .shr (.t 8) (.c ⟨.int .u64, (16 : Int)⟩)) none <| .op (.cvt 10 (.int .u8) (.t 9)) none <| .op (.mv 11 (.t 0)) none <| .op (.bin 12 .shr (.t 11) (.c ⟨.int .u64, (24 : Int)⟩)) none <| .op (.cvt 13 (.int .u8) (.t 12)) none <| .op (.bsl 14 (.int .u8) [(.t 4), (.t 7), (.t 10), (.t 13)]) none <| .op (.take 2 14) none <| .nil)) <|
  .ret))
noncomputable def r03_four.f (n : Nat) (a0 : Int) : Option (List Int) :=
  geK (8 : Int) (geK (16 : Int) (geK (24 : Int) (some ([(IntKind.u8.wrap a0), (IntKind.u8.wrap (ishr IntKind.u32 a0 ((8 : Int)).toNat)), (IntKind.u8.wrap (ishr IntKind.u32 a0 ((16 : Int)).toNat)), (IntKind.u8.wrap (ishr IntKind.u32 a0 ((24 : Int)).toNat))] : List Int))))
theorem r03_four.ok (n : Nat) (a0 : Int) : evFn (r03_four.c n) r03_four.rs r03_four.ps r03_four.r (a0, ()) = r03_four.f n a0 := by kernel_rfl
noncomputable def r03_four.sp (n : Nat) : FSpec := { f := 26, ps := r03_four.ps, r := r03_four.r, run := fun x => r03_four.f n x.1 }
theorem r03_four.calls (n : Nat) : (r03_four.c n).calls = [] := by kernel_rfl
theorem r03_four.fits (n : Nat) : fnB tab hd Try.f26 (r03_four.c n) r03_four.rs (r03_four.sp n).ps (r03_four.sp n).r = true := by kernel_rfl
theorem r03_four.sound (n : Nat) : Sound Try.prog (r03_four.sp n) := by
  refine fnB_sound tabOk eqFacts mixed (fn := Try.f26) (c := r03_four.c n) (rs := r03_four.rs) (by kernel_rfl) ?_ (r03_four.fits n) ?_
  · rw [r03_four.calls]
    intro s hs; cases hs
  · rintro ⟨a0, ⟨⟩⟩ y h
    exact (r03_four.ok n a0).trans h
/-! backwater/backwaterref01.Fold -/
abbrev r01_Fold.ps : List (Ty × Bool) := [(.slB .U false (.int .u8), false)]
abbrev r01_Fold.r : Ty := .int .u32
abbrev r01_Fold.rs : List RV := [.t 2]
abbrev r01_Fold.R : Type := (rtOf r01_Fold.ps r01_Fold.r).den
noncomputable def r01_Fold.c1 (n : Nat) : XC :=
  (.seq (.reg (.op (.mv 19 (.t 3)) none <| .op (.mv 2 (.t 19)) none <| .nil)) <|
  .ret)
noncomputable def r01_Fold.j1 (n : Nat) (x3 : Int) : Option Int :=
  some x3
theorem r01_Fold.s1 (n : Nat) (x3 : Int) : ev (r01_Fold.c1 n) [(3, some ⟨.int .u32, x3⟩)] (⟨retK r01_Fold.rs r01_Fold.ps r01_Fold.r, []⟩ : Ks r01_Fold.R) (retK r01_Fold.rs r01_Fold.ps r01_Fold.r) = r01_Fold.j1 n x3 := by kernel_rfl
noncomputable def r01_Fold.K1 (n : Nat) : St → Option r01_Fold.R := fun st => ghK [.keep [3]] st fun st => ev (r01_Fold.c1 n) st (⟨retK r01_Fold.rs r01_Fold.ps r01_Fold.r, []⟩ : Ks r01_Fold.R) (retK r01_Fold.rs r01_Fold.ps r01_Fold.r)
noncomputable def r01_Fold.Kb2 (Kr2 : St → Option r01_Fold.R) : St → Option r01_Fold.R := fun st => ghK [.keep [0, 3, 4]] st Kr2
noncomputable def r01_Fold.c3 (n : Nat) : XC :=
  (.aft (.reg (.op (.mv 9 (.t 4)) none <| .op (.bin 10 .add (.t 9) (.c ⟨.int .i64, (1 : Int)⟩)) none <| .op (.mv 4 (.t 10)) none <| .nil)) [.keep [0, 3, 4]])
theorem r01_Fold.qb2_0 (Kr2 : St → Option r01_Fold.R) (kr2 : (List Int) → Int → Int → Option Int) (hK2 : ∀ (x0 : List Int) (x3 : Int) (x4 : Int), Kr2 [(0, some ⟨.slB .U false (.int .u8), x0⟩), (3, some ⟨.int .u32, x3⟩), (4, some ⟨.int .i64, x4⟩)] = kr2 x0 x3 x4) (x0 : List Int) (x3 : Int) (x4 : Int) : r01_Fold.Kb2 Kr2 [(0, some ⟨.slB .U false (.int .u8), x0⟩), (3, some ⟨.int .u32, x3⟩), (4, some ⟨.int .i64, x4⟩)] = kr2 x0 x3 x4 := (by kernel_rfl : _ = Kr2 [(0, some ⟨.slB .U false (.int .u8), x0⟩), (3, some ⟨.int .u32, x3⟩), (4, some ⟨.int .i64, x4⟩)]).trans (hK2 x0 x3 x4)
noncomputable def r01_Fold.j3 (n : Nat) (kr2 : (List Int) → Int → Int → Option Int) (x0 : List Int) (x3 : Int) (x4 : Int) : Option Int :=
  kr2 x0 x3 (IntKind.i64.wrap (x4 + (1 : Int)))
theorem r01_Fold.w3 (n : Nat) (Kr2 : St → Option r01_Fold.R) (x0 : List Int) (x3 : Int) (x4 : Int) : ev (r01_Fold.c3 n) [(0, some ⟨.slB .U false (.int .u8), x0⟩), (3, some ⟨.int .u32, x3⟩), (4, some ⟨.int .i64, x4⟩)] (⟨retK r01_Fold.rs r01_Fold.ps r01_Fold.r, [(0, (r01_Fold.K1 n))]⟩ : Ks r01_Fold.R) (r01_Fold.Kb2 Kr2) =
  ((r01_Fold.Kb2 Kr2) [(0, some ⟨.slB .U false (.int .u8), x0⟩), (3, some ⟨.int .u32, x3⟩), (4, some ⟨.int .i64, (IntKind.i64.wrap (x4 + (1 : Int)))⟩)] : Option r01_Fold.R) := by kernel_rfl
theorem r01_Fold.s3 (n : Nat) (Kr2 : St → Option r01_Fold.R) (kr2 : (List Int) → Int → Int → Option Int) (hK2 : ∀ (x0 : List Int) (x3 : Int) (x4 : Int), Kr2 [(0, some ⟨.slB .U false (.int .u8), x0⟩), (3, some ⟨.int .u32, x3⟩), (4, some ⟨.int .i64, x4⟩)] = kr2 x0 x3 x4) (x0 : List Int) (x3 : Int) (x4 : Int) : ev (r01_Fold.c3 n) [(0, some ⟨.slB .U false (.int .u8), x0⟩), (3, some ⟨.int .u32, x3⟩), (4, some ⟨.int .i64, x4⟩)] (⟨retK r01_Fold.rs r01_Fold.ps r01_Fold.r, [(0, (r01_Fold.K1 n))]⟩ : Ks r01_Fold.R) (r01_Fold.Kb2 Kr2) = r01_Fold.j3 n kr2 x0 x3 x4 := (r01_Fold.w3 n Kr2 x0 x3 x4).trans (by simp only [r01_Fold.j3, r01_Fold.qb2_0 Kr2 kr2 hK2] <;> kernel_rfl)
noncomputable def r01_Fold.K3 (n : Nat) (Kr2 : St → Option r01_Fold.R) : St → Option r01_Fold.R := fun st => ghK [.keep [0, 3, 4]] st fun st => ev (r01_Fold.c3 n) st (⟨retK r01_Fold.rs r01_Fold.ps r01_Fold.r, [(0, (r01_Fold.K1 n))]⟩ : Ks r01_Fold.R) (r01_Fold.Kb2 Kr2)
noncomputable def r01_Fold.cb2 (n : Nat) : XC :=
  (.aft (.seq (.seq (.reg (.op (.mv 5 (.t 4)) none <| .op (.mv 6 (.t 0)) none <| .op (.len 7 (.t 6) false) none <| .op (.bin 8 .lss (.t 5) (.t 7)) none <| .nil)) <|
  (.cond (.t 8)
  .skip
  (.pre [.keep [3]] (.exit 0)))) <|
  (.seq (.aft (.block 1 (.reg (.op (.mv 11 (.t 3)) none <| .op (.mv 12 (.t 0)) none <| .op (.mv 13 (.t 4)) none <| .op (.idxA 14 (.t 12) (.t 13) 1 0) none <| .op (.ld 15 14 1 false) none <| .op (.cvt 16 (.int .u32) (.t 15)) none <| .op (.bin 17 .xor (.t 11) (.t 16)) none <| .op (.bin 18 .mul (.t 17) (.c ⟨.int .u32, (16777619 : Int)⟩)) none <| .op (.mv 3 (.t 18)) none <| .nil))) [.keep [0, 3, 4]]) (r01_Fold.c3 n))) [.keep [0, 3, 4]])
theorem r01_Fold.q1_0 (n : Nat) (x3 : Int) : r01_Fold.K1 n [(3, some ⟨.int .u32, x3⟩)] = r01_Fold.j1 n x3 := (by kernel_rfl : _ = ev (r01_Fold.c1 n) [(3, some ⟨.int .u32, x3⟩)] (⟨retK r01_Fold.rs r01_Fold.ps r01_Fold.r, []⟩ : Ks r01_Fold.R) (retK r01_Fold.rs r01_Fold.ps r01_Fold.r)).trans (r01_Fold.s1 n x3)
noncomputable def r01_Fold.l2 (n : Nat) : Nat → (List Int) → Int → Int → Option Int
  | 0, _, _, _ => none
  | k + 1, x0, x3, x4 =>
  bif (decide (x4 < (x0.length : Int))) then (idxK x0 x4 fun e1 => r01_Fold.j3 n (r01_Fold.l2 n k) x0 (IntKind.u32.wrap ((ixor IntKind.u32 x3 (IntKind.u32.wrap e1)) * (16777619 : Int))) x4)
  else (r01_Fold.j1 n x3)
theorem r01_Fold.wb2 (n : Nat) (Kr2 : St → Option r01_Fold.R) (x0 : List Int) (x3 : Int) (x4 : Int) : ev (r01_Fold.cb2 n) (keepSt [(0, some ⟨.slB .U false (.int .u8), x0⟩), (3, some ⟨.int .u32, x3⟩), (4, some ⟨.int .i64, x4⟩)] [0, 3, 4]) (⟨retK r01_Fold.rs r01_Fold.ps r01_Fold.r, [(0, (r01_Fold.K1 n))]⟩ : Ks r01_Fold.R) Kr2 =
  (bif (decide (x4 < (x0.length : Int))) then (idxK x0 x4 fun e1 => ev (r01_Fold.c3 n) [(0, some ⟨.slB .U false (.int .u8), x0⟩), (3, some ⟨.int .u32, (IntKind.u32.wrap ((ixor IntKind.u32 x3 (IntKind.u32.wrap e1)) * (16777619 : Int)))⟩), (4, some ⟨.int .i64, x4⟩)] (⟨retK r01_Fold.rs r01_Fold.ps r01_Fold.r, [(0, (r01_Fold.K1 n))]⟩ : Ks r01_Fold.R) (r01_Fold.Kb2 Kr2))
  else ((r01_Fold.K1 n) [(3, some ⟨.int .u32, x3⟩)]) : Option r01_Fold.R) := by kernel_rfl
theorem r01_Fold.l2_ok (n : Nat) (k : Nat) : ∀ (x0 : List Int) (x3 : Int) (x4 : Int), loopEv [0, 3, 4] (fun s K => ev (r01_Fold.cb2 n) s (⟨retK r01_Fold.rs r01_Fold.ps r01_Fold.r, [(0, (r01_Fold.K1 n))]⟩ : Ks r01_Fold.R) K) k [(0, some ⟨.slB .U false (.int .u8), x0⟩), (3, some ⟨.int .u32, x3⟩), (4, some ⟨.int .i64, x4⟩)] = r01_Fold.l2 n k x0 x3 x4 := by
  induction k with
  | zero => intros; rfl
  | succ k ih =>
    intro x0 x3 x4
    exact (r01_Fold.wb2 n (fun st => loopEv [0, 3, 4] (fun s K => ev (r01_Fold.cb2 n) s (⟨retK r01_Fold.rs r01_Fold.ps r01_Fold.r, [(0, (r01_Fold.K1 n))]⟩ : Ks r01_Fold.R) K) k st) x0 x3 x4).trans (by simp only [r01_Fold.l2, r01_Fold.s3 n (fun st => loopEv [0, 3, 4] (fun s K => ev (r01_Fold.cb2 n) s (⟨retK r01_Fold.rs r01_Fold.ps r01_Fold.r, [(0, (r01_Fold.K1 n))]⟩ : Ks r01_Fold.R) K) k st) (r01_Fold.l2 n k) ih, r01_Fold.q1_0 n] <;> kernel_rfl)
noncomputable def r01_Fold.c (n : Nat) : XC :=
  (.seq (.reg (.op (.mv 2 (.c ⟨.int .u32, (0 : Int)⟩)) none <| .nil)) <|
  (.seq (.reg (.op (.mv 3 (.c ⟨.int .u32, (2166136261 : Int)⟩)) none <| .nil)) <|
  (.seq (.aft (.seq (.reg (.op (.mv 4 (.c ⟨.int .i64, (0 : Int)⟩)) none <| .nil)) <|
  (.block 0 (.pre [.keep [0, 3, 4]] (.loop n [0, 3, 4] (r01_Fold.cb2 n))))) [.keep [3]]) (r01_Fold.c1 n))))
noncomputable def r01_Fold.f (n : Nat) (a0 : List Int) : Option Int :=
  r01_Fold.l2 n n a0 2166136261 0
theorem r01_Fold.w (n : Nat) (a0 : List Int) : evFn (r01_Fold.c n) r01_Fold.rs r01_Fold.ps r01_Fold.r (a0, ()) =
  (loopEv [0, 3, 4] (fun s K => ev (r01_Fold.cb2 n) s (⟨retK r01_Fold.rs r01_Fold.ps r01_Fold.r, [(0, (r01_Fold.K1 n))]⟩ : Ks r01_Fold.R) K) n [(0, some ⟨.slB .U false (.int .u8), a0⟩), (3, some ⟨.int .u32, (2166136261 : Int)⟩), (4, some ⟨.int .i64, (0 : Int)⟩)] : Option r01_Fold.R) := by kernel_rfl
theorem r01_Fold.ok (n : Nat) (a0 : List Int) : evFn (r01_Fold.c n) r01_Fold.rs r01_Fold.ps r01_Fold.r (a0, ()) = r01_Fold.f n a0 := (r01_Fold.w n a0).trans (by simp only [r01_Fold.f, r01_Fold.l2_ok n] <;> kernel_rfl)
noncomputable def r01_Fold.sp (n : Nat) : FSpec := { f := 27, ps := r01_Fold.ps, r := r01_Fold.r, run := fun x => r01_Fold.f n x.1 }
theorem r01_Fold.calls (n : Nat) : (r01_Fold.c n).calls = [] := by kernel_rfl
theorem r01_Fold.fits (n : Nat) : fnB tab hd Try.f27 (r01_Fold.c n) r01_Fold.rs (r01_Fold.sp n).ps (r01_Fold.sp n).r = true := by kernel_rfl
theorem r01_Fold.sound (n : Nat) : Sound Try.prog (r01_Fold.sp n) := by
  refine fnB_sound tabOk eqFacts mixed (fn := Try.f27) (c := r01_Fold.c n) (rs := r01_Fold.rs) (by kernel_rfl) ?_ (r01_Fold.fits n) ?_
  · rw [r01_Fold.calls]
    intro s hs; cases hs
  · rintro ⟨a0, ⟨⟩⟩ y h
    exact (r01_Fold.ok n a0).trans h
/-! backwater/backwaterref03.Encode -/
abbrev r03_Encode.ps : List (Ty × Bool) := [(TPacket, false)]
abbrev r03_Encode.r : Ty := .tup (.pair (.slX .U (.int .u8)) (.pair (.int .i64) .unit))
abbrev r03_Encode.rs : List RV := [.t 2, .t 3]
abbrev r03_Encode.R : Type := (rtOf r03_Encode.ps r03_Encode.r).den
noncomputable def r03_Encode.c (n : Nat) : XC :=
  (.seq (.reg (.op (.boxv 1 (.t 0)) none <| .op (.mv 2 (.c ⟨.nil 0, ()⟩)) none <| .op (.mv 3 (.c ⟨.int .i64, (0 : Int)⟩)) none <| .nil)) <|
  (.seq (.seq (.reg (.op (.ld 5 1 6 true) none <| .op (.call (some 6) (r03_Right.sp n) [.v (.t 5)]) none <| .op (.un 7 .not (.t 6)) none <| .nil)) <|
  (.cond (.t 7)
  (.seq (.reg (.op (.mv 2 (.c ⟨.nil 0, ()⟩)) none <| .op (.mv 3 (.c ⟨.int .i64, (3 : Int)⟩)) none <| .nil)) <|
  .ret)
  .skip)) <|
  (.seq (.reg (.op (.fa 8 1 0 0) none <| .op (.ld 9 8 1 false) none <| .op (.fa 10 1 1 1) none <| .op (.ld 11 10 1 false) none <| .op (.fa 12 1 2 2) none <| .op (.ld 13 12 1 false) none <| .op (.bsl 14 (.int .u8) [(.c ⟨.int .u8, (66 : Int)⟩), (.c ⟨.int .u8, (87 : Int)⟩), (.t 9), (.t 11), (.t 13)]) none <| .op (.take 4 14) none <| .nil)) <|
  (.seq (.pre [.keep [1, 4]] (.regD (.op (.take 15 4) (some ([4, 15], [4, 15])) <| .op (.fa 16 1 3 3) (some ([1, 16], [16])) <| .op (.ld 17 16 1 false) (some ([1, 16, 17], [17])) <| .op (.call (some 18) (r03_four.sp n) [.v (.t 17)]) (some ([17, 18], [18])) <| .op (.app 19 15 (.t 18) 1 1) (some ([15, 18, 19], [15, 19])) <| .op (.fa 20 1 4 4) (some ([1, 20], [20])) <| .op (.ld 21 20 1 false) (some ([1, 20, 21], [21])) <| .op (.call (some 22) (r03_four.sp n) [.v (.t 21)]) (some ([21, 22], [22])) <| .op (.app 23 19 (.t 22) 1 1) (some ([19, 22, 23], [19, 23])) <| .op (.take 4 23) (some ([4, 23], [4, 23])) <| .nil))) <|
  (.seq (.regD (.op (.take 24 4) (some ([4, 24], [4, 24])) <| .op (.fa 25 1 5 5) (some ([1, 25], [25])) <| .op (.ld 26 25 1 false) (some ([1, 25, 26], [26])) <| .op (.len 27 (.t 26) true) (some ([26, 27], [27])) <| .op (.cvt 28 (.int .u8) (.t 27)) (some ([27, 28], [28])) <| .op (.fa 29 1 5 5) (some ([1, 29], [29])) <| .op (.ld 30 29 1 false) (some ([1, 29, 30], [30])) <| .op (.len 31 (.t 30) true) (some ([30, 31], [31])) <| .op (.bin 32 .shr (.t 31) (.c ⟨.int .u64, (8 : Int)⟩)) (some ([31, 32], [32])) <| .op (.cvt 33 (.int .u8) (.t 32)) (some ([32, 33], [33])) <| .op (.bsl 34 (.int .u8) [(.t 28), (.t 33)]) (some ([28, 33, 34], [34])) <| .op (.app 35 24 (.t 34) 1 1) (some ([24, 34, 35], [24, 35])) <| .op (.fa 36 1 5 5) (some ([1, 36], [36])) <| .op (.ld 37 36 1 false) (some ([1, 36, 37], [37])) <| .op (.app 38 35 (.t 37) 1 1) (some ([35, 37, 38], [35, 38])) <| .op (.take 4 38) (some ([4, 38], [4, 38])) <| .nil)) <|
  (.seq (.pre [.keep [4]] (.reg (.op (.take 39 4) none <| .op (.bor 40 4) none <| .op (.call (some 41) (r01_Fold.sp n) [.v (.t 40)]) none <| .op (.call (some 42) (r03_four.sp n) [.v (.t 41)]) none <| .op (.app 43 39 (.t 42) 1 1) none <| .op (.take 2 43) none <| .op (.mv 3 (.c ⟨.int .i64, (0 : Int)⟩)) none <| .nil))) <|
  .ret))))))
noncomputable def r03_Encode.f (n : Nat) (a0 : DPacket) : Option ((List Int) × Int × Unit) :=
  (r03_Right.f n (a0.1, a0.2.1, a0.2.2.1, a0.2.2.2.1, a0.2.2.2.2.1, a0.2.2.2.2.2.1, a0.2.2.2.2.2.2)).bind fun r1 => bif (!r1) then (some (([] : List Int), 3, ()))
  else ((r03_four.f n a0.2.2.2.1).bind fun r2 => appK ([66, 87, a0.1, a0.2.1, a0.2.2.1] : List Int).length r2.length 1 ((r03_four.f n a0.2.2.2.2.1).bind fun r3 => appK (([66, 87, a0.1, a0.2.1, a0.2.2.1] : List Int) ++ r2).length r3.length 1 (geK (8 : Int) (appK ((([66, 87, a0.1, a0.2.1, a0.2.2.1] : List Int) ++ r2) ++ r3).length ([(IntKind.u8.wrap (a0.2.2.2.2.2.1.length : Int)), (IntKind.u8.wrap (ishr IntKind.i64 (a0.2.2.2.2.2.1.length : Int) ((8 : Int)).toNat))] : List Int).length 1 (appK (((([66, 87, a0.1, a0.2.1, a0.2.2.1] : List Int) ++ r2) ++ r3) ++ ([(IntKind.u8.wrap (a0.2.2.2.2.2.1.length : Int)), (IntKind.u8.wrap (ishr IntKind.i64 (a0.2.2.2.2.2.1.length : Int) ((8 : Int)).toNat))] : List Int)).length a0.2.2.2.2.2.1.length 1 ((r01_Fold.f n ((((([66, 87, a0.1, a0.2.1, a0.2.2.1] : List Int) ++ r2) ++ r3) ++ ([(IntKind.u8.wrap (a0.2.2.2.2.2.1.length : Int)), (IntKind.u8.wrap (ishr IntKind.i64 (a0.2.2.2.2.2.1.length : Int) ((8 : Int)).toNat))] : List Int)) ++ a0.2.2.2.2.2.1)).bind fun r4 => (r03_four.f n r4).bind fun r5 => appK ((((([66, 87, a0.1, a0.2.1, a0.2.2.1] : List Int) ++ r2) ++ r3) ++ ([(IntKind.u8.wrap (a0.2.2.2.2.2.1.length : Int)), (IntKind.u8.wrap (ishr IntKind.i64 (a0.2.2.2.2.2.1.length : Int) ((8 : Int)).toNat))] : List Int)) ++ a0.2.2.2.2.2.1).length r5.length 1 (some ((((((([66, 87, a0.1, a0.2.1, a0.2.2.1] : List Int) ++ r2) ++ r3) ++ ([(IntKind.u8.wrap (a0.2.2.2.2.2.1.length : Int)), (IntKind.u8.wrap (ishr IntKind.i64 (a0.2.2.2.2.2.1.length : Int) ((8 : Int)).toNat))] : List Int)) ++ a0.2.2.2.2.2.1) ++ r5), 0, ()))))))))
theorem r03_Encode.ok (n : Nat) (a0 : DPacket) : evFn (r03_Encode.c n) r03_Encode.rs r03_Encode.ps r03_Encode.r (a0, ()) = r03_Encode.f n a0 := by kernel_rfl
noncomputable def r03_Encode.sp (n : Nat) : FSpec := { f := 11, ps := r03_Encode.ps, r := r03_Encode.r, run := fun x => r03_Encode.f n x.1 }
theorem r03_Encode.calls (n : Nat) : (r03_Encode.c n).calls = [r03_Right.sp n, r03_four.sp n, r03_four.sp n, r01_Fold.sp n, r03_four.sp n] := by kernel_rfl
theorem r03_Encode.fits (n : Nat) : fnB tab hd Try.f11 (r03_Encode.c n) r03_Encode.rs (r03_Encode.sp n).ps (r03_Encode.sp n).r = true := by kernel_rfl
theorem r03_Encode.sound (n : Nat) : Sound Try.prog (r03_Encode.sp n) := by
  refine fnB_sound tabOk eqFacts mixed (fn := Try.f11) (c := r03_Encode.c n) (rs := r03_Encode.rs) (by kernel_rfl) ?_ (r03_Encode.fits n) ?_
  · rw [r03_Encode.calls]
    intro s hs
    simp only [List.mem_cons, List.not_mem_nil, or_false] at hs
    rcases hs with rfl | rfl | rfl | rfl | rfl
    · exact r03_Right.sound n
    · exact r03_four.sound n
    · exact r03_four.sound n
    · exact r01_Fold.sound n
    · exact r03_four.sound n
  · rintro ⟨a0, ⟨⟩⟩ y h
    exact (r03_Encode.ok n a0).trans h
/-! backwater/frame.read -/
abbrev frame_read.ps : List (Ty × Bool) := [(.slB .U false (.int .u8), false)]
abbrev frame_read.r : Ty := .int .u32
abbrev frame_read.rs : List RV := [.t 2]
abbrev frame_read.R : Type := (rtOf frame_read.ps frame_read.r).den
noncomputable def frame_read.c1 (n : Nat) : XC :=
  (.seq (.reg (.op (.mv 18 (.t 2)) none <| .op (.mv 2 (.t 18)) none <| .nil)) <|
  .ret)
noncomputable def frame_read.j1 (n : Nat) (x2 : Int) : Option Int :=
  some x2
theorem frame_read.s1 (n : Nat) (x2 : Int) : ev (frame_read.c1 n) [(2, some ⟨.int .u32, x2⟩)] (⟨retK frame_read.rs frame_read.ps frame_read.r, []⟩ : Ks frame_read.R) (retK frame_read.rs frame_read.ps frame_read.r) = frame_read.j1 n x2 := by kernel_rfl
noncomputable def frame_read.K1 (n : Nat) : St → Option frame_read.R := fun st => ghK [.keep [2]] st fun st => ev (frame_read.c1 n) st (⟨retK frame_read.rs frame_read.ps frame_read.r, []⟩ : Ks frame_read.R) (retK frame_read.rs frame_read.ps frame_read.r)
noncomputable def frame_read.Kb2 (Kr2 : St → Option frame_read.R) : St → Option frame_read.R := fun st => ghK [.keep [0, 2, 4]] st Kr2
noncomputable def frame_read.c3 (n : Nat) : XC :=
  (.aft (.reg (.op (.bin 17 .add (.t 4) (.c ⟨.int .i64, (1 : Int)⟩)) none <| .op (.mv 4 (.t 17)) none <| .nil)) [.keep [0, 2, 4]])
theorem frame_read.qb2_0 (Kr2 : St → Option frame_read.R) (kr2 : (List Int) → Int → Int → Option Int) (hK2 : ∀ (x0 : List Int) (x2 : Int) (x4 : Int), Kr2 [(0, some ⟨.slB .U false (.int .u8), x0⟩), (2, some ⟨.int .u32, x2⟩), (4, some ⟨.int .i64, x4⟩)] = kr2 x0 x2 x4) (x0 : List Int) (x2 : Int) (x4 : Int) : frame_read.Kb2 Kr2 [(0, some ⟨.slB .U false (.int .u8), x0⟩), (2, some ⟨.int .u32, x2⟩), (4, some ⟨.int .i64, x4⟩)] = kr2 x0 x2 x4 := (by kernel_rfl : _ = Kr2 [(0, some ⟨.slB .U false (.int .u8), x0⟩), (2, some ⟨.int .u32, x2⟩), (4, some ⟨.int .i64, x4⟩)]).trans (hK2 x0 x2 x4)
noncomputable def frame_read.j3 (n : Nat) (kr2 : (List Int) → Int → Int → Option Int) (x0 : List Int) (x2 : Int) (x4 : Int) : Option Int :=
  kr2 x0 x2 (IntKind.i64.wrap (x4 + (1 : Int)))
theorem frame_read.w3 (n : Nat) (Kr2 : St → Option frame_read.R) (x0 : List Int) (x2 : Int) (x4 : Int) : ev (frame_read.c3 n) [(0, some ⟨.slB .U false (.int .u8), x0⟩), (2, some ⟨.int .u32, x2⟩), (4, some ⟨.int .i64, x4⟩)] (⟨retK frame_read.rs frame_read.ps frame_read.r, [(0, (frame_read.K1 n))]⟩ : Ks frame_read.R) (frame_read.Kb2 Kr2) =
  ((frame_read.Kb2 Kr2) [(0, some ⟨.slB .U false (.int .u8), x0⟩), (2, some ⟨.int .u32, x2⟩), (4, some ⟨.int .i64, (IntKind.i64.wrap (x4 + (1 : Int)))⟩)] : Option frame_read.R) := by kernel_rfl
theorem frame_read.s3 (n : Nat) (Kr2 : St → Option frame_read.R) (kr2 : (List Int) → Int → Int → Option Int) (hK2 : ∀ (x0 : List Int) (x2 : Int) (x4 : Int), Kr2 [(0, some ⟨.slB .U false (.int .u8), x0⟩), (2, some ⟨.int .u32, x2⟩), (4, some ⟨.int .i64, x4⟩)] = kr2 x0 x2 x4) (x0 : List Int) (x2 : Int) (x4 : Int) : ev (frame_read.c3 n) [(0, some ⟨.slB .U false (.int .u8), x0⟩), (2, some ⟨.int .u32, x2⟩), (4, some ⟨.int .i64, x4⟩)] (⟨retK frame_read.rs frame_read.ps frame_read.r, [(0, (frame_read.K1 n))]⟩ : Ks frame_read.R) (frame_read.Kb2 Kr2) = frame_read.j3 n kr2 x0 x2 x4 := (frame_read.w3 n Kr2 x0 x2 x4).trans (by simp only [frame_read.j3, frame_read.qb2_0 Kr2 kr2 hK2] <;> kernel_rfl)
noncomputable def frame_read.K3 (n : Nat) (Kr2 : St → Option frame_read.R) : St → Option frame_read.R := fun st => ghK [.keep [0, 2, 4]] st fun st => ev (frame_read.c3 n) st (⟨retK frame_read.rs frame_read.ps frame_read.r, [(0, (frame_read.K1 n))]⟩ : Ks frame_read.R) (frame_read.Kb2 Kr2)
noncomputable def frame_read.cb2 (n : Nat) : XC :=
  (.aft (.seq (.reg (.op (.bin 5 .lss (.t 4) (.c ⟨.int .i64, (4 : Int)⟩)) none <| .nil)) <|
  (.seq (.cond (.t 5)
  .skip
  (.pre [.keep [2]] (.exit 0))) <|
  (.seq (.aft (.block 1 (.seq (.reg (.op (.mv 6 (.t 4)) none <| .op (.mv 3 (.t 6)) none <| .nil)) <|
  (.reg (.op (.mv 7 (.t 2)) none <| .op (.mv 8 (.t 0)) none <| .op (.mv 9 (.t 3)) none <| .op (.idxA 10 (.t 8) (.t 9) 1 0) none <| .op (.ld 11 10 1 false) none <| .op (.cvt 12 (.int .u32) (.t 11)) none <| .op (.mv 13 (.t 3)) none <| .op (.bin 14 .mul (.c ⟨.int .i64, (8 : Int)⟩) (.t 13)) none <| .op (.bin 15 .shl (.t 12) (.t 14)) none <| .op (.bin 16 .or (.t 7) (.t 15)) none <| .op (.mv 2 (.t 16)) none <| .nil)))) [.keep [0, 2, 4]]) (frame_read.c3 n)))) [.keep [0, 2, 4]])
theorem frame_read.q1_0 (n : Nat) (x2 : Int) : frame_read.K1 n [(2, some ⟨.int .u32, x2⟩)] = frame_read.j1 n x2 := (by kernel_rfl : _ = ev (frame_read.c1 n) [(2, some ⟨.int .u32, x2⟩)] (⟨retK frame_read.rs frame_read.ps frame_read.r, []⟩ : Ks frame_read.R) (retK frame_read.rs frame_read.ps frame_read.r)).trans (frame_read.s1 n x2)
noncomputable def frame_read.l2 (n : Nat) : Nat → (List Int) → Int → Int → Option Int
  | 0, _, _, _ => none
  | k + 1, x0, x2, x4 =>
  bif (decide (x4 < (4 : Int))) then (idxK x0 x4 fun e1 => geK (IntKind.i64.wrap ((8 : Int) * x4)) (frame_read.j3 n (frame_read.l2 n k) x0 (ior IntKind.u32 x2 (ishl IntKind.u32 (IntKind.u32.wrap e1) ((IntKind.i64.wrap ((8 : Int) * x4))).toNat)) x4))
  else (frame_read.j1 n x2)
theorem frame_read.wb2 (n : Nat) (Kr2 : St → Option frame_read.R) (x0 : List Int) (x2 : Int) (x4 : Int) : ev (frame_read.cb2 n) (keepSt [(0, some ⟨.slB .U false (.int .u8), x0⟩), (2, some ⟨.int .u32, x2⟩), (4, some ⟨.int .i64, x4⟩)] [0, 2, 4]) (⟨retK frame_read.rs frame_read.ps frame_read.r, [(0, (frame_read.K1 n))]⟩ : Ks frame_read.R) Kr2 =
  (bif (decide (x4 < (4 : Int))) then (idxK x0 x4 fun e1 => geK (IntKind.i64.wrap ((8 : Int) * x4)) (ev (frame_read.c3 n) [(0, some ⟨.slB .U false (.int .u8), x0⟩), (2, some ⟨.int .u32, (ior IntKind.u32 x2 (ishl IntKind.u32 (IntKind.u32.wrap e1) ((IntKind.i64.wrap ((8 : Int) * x4))).toNat))⟩), (4, some ⟨.int .i64, x4⟩)] (⟨retK frame_read.rs frame_read.ps frame_read.r, [(0, (frame_read.K1 n))]⟩ : Ks frame_read.R) (frame_read.Kb2 Kr2)))
  else ((frame_read.K1 n) [(2, some ⟨.int .u32, x2⟩)]) : Option frame_read.R) := by kernel_rfl
theorem frame_read.l2_ok (n : Nat) (k : Nat) : ∀ (x0 : List Int) (x2 : Int) (x4 : Int), loopEv [0, 2, 4] (fun s K => ev (frame_read.cb2 n) s (⟨retK frame_read.rs frame_read.ps frame_read.r, [(0, (frame_read.K1 n))]⟩ : Ks frame_read.R) K) k [(0, some ⟨.slB .U false (.int .u8), x0⟩), (2, some ⟨.int .u32, x2⟩), (4, some ⟨.int .i64, x4⟩)] = frame_read.l2 n k x0 x2 x4 := by
  induction k with
  | zero => intros; rfl
  | succ k ih =>
    intro x0 x2 x4
    exact (frame_read.wb2 n (fun st => loopEv [0, 2, 4] (fun s K => ev (frame_read.cb2 n) s (⟨retK frame_read.rs frame_read.ps frame_read.r, [(0, (frame_read.K1 n))]⟩ : Ks frame_read.R) K) k st) x0 x2 x4).trans (by simp only [frame_read.l2, frame_read.s3 n (fun st => loopEv [0, 2, 4] (fun s K => ev (frame_read.cb2 n) s (⟨retK frame_read.rs frame_read.ps frame_read.r, [(0, (frame_read.K1 n))]⟩ : Ks frame_read.R) K) k st) (frame_read.l2 n k) ih, frame_read.q1_0 n] <;> kernel_rfl)
noncomputable def frame_read.c (n : Nat) : XC :=
  (.seq (.reg (.op (.mv 2 (.c ⟨.int .u32, (0 : Int)⟩)) none <| .nil)) <|
  (.seq (.aft (.seq (.reg (.op (.mv 4 (.c ⟨.int .i64, (0 : Int)⟩)) none <| .nil)) <|
  (.block 0 (.pre [.keep [0, 2, 4]] (.loop n [0, 2, 4] (frame_read.cb2 n))))) [.keep [2]]) (frame_read.c1 n)))
noncomputable def frame_read.f (n : Nat) (a0 : List Int) : Option Int :=
  frame_read.l2 n n a0 0 0
theorem frame_read.w (n : Nat) (a0 : List Int) : evFn (frame_read.c n) frame_read.rs frame_read.ps frame_read.r (a0, ()) =
  (loopEv [0, 2, 4] (fun s K => ev (frame_read.cb2 n) s (⟨retK frame_read.rs frame_read.ps frame_read.r, [(0, (frame_read.K1 n))]⟩ : Ks frame_read.R) K) n [(0, some ⟨.slB .U false (.int .u8), a0⟩), (2, some ⟨.int .u32, (0 : Int)⟩), (4, some ⟨.int .i64, (0 : Int)⟩)] : Option frame_read.R) := by kernel_rfl
theorem frame_read.ok (n : Nat) (a0 : List Int) : evFn (frame_read.c n) frame_read.rs frame_read.ps frame_read.r (a0, ()) = frame_read.f n a0 := (frame_read.w n a0).trans (by simp only [frame_read.f, frame_read.l2_ok n] <;> kernel_rfl)
noncomputable def frame_read.sp (n : Nat) : FSpec := { f := 32, ps := frame_read.ps, r := frame_read.r, run := fun x => frame_read.f n x.1 }
theorem frame_read.calls (n : Nat) : (frame_read.c n).calls = [] := by kernel_rfl
theorem frame_read.fits (n : Nat) : fnB tab hd Try.f32 (frame_read.c n) frame_read.rs (frame_read.sp n).ps (frame_read.sp n).r = true := by kernel_rfl
theorem frame_read.sound (n : Nat) : Sound Try.prog (frame_read.sp n) := by
  refine fnB_sound tabOk eqFacts mixed (fn := Try.f32) (c := frame_read.c n) (rs := frame_read.rs) (by kernel_rfl) ?_ (frame_read.fits n) ?_
  · rw [frame_read.calls]
    intro s hs; cases hs
  · rintro ⟨a0, ⟨⟩⟩ y h
    exact (frame_read.ok n a0).trans h
/-! backwater/frame.first -/
abbrev frame_first.ps : List (Ty × Bool) := [(.slB .U false (.int .u8), false)]
abbrev frame_first.r : Ty := .tup (.pair TPacket (.pair (.int .i64) (.pair .bool .unit)))
abbrev frame_first.rs : List RV := [.c 2 6 true, .t 3, .t 4]
abbrev frame_first.R : Type := (rtOf frame_first.ps frame_first.r).den
noncomputable def frame_first.c (n : Nat) : XC :=
  (.seq (.reg (.op (.alloc 2 ⟨TPacket, ((0, 0, 0, 0, 0, ([] : List Int), ()) : DPacket)⟩) none <| .op (.mv 3 (.c ⟨.int .i64, (0 : Int)⟩)) none <| .op (.mv 4 (.c ⟨.bool, (false : Bool)⟩)) none <| .nil)) <|
  (.seq (.seq (.reg (.op (.mv 6 (.t 0)) none <| .op (.len 7 (.t 6) false) none <| .op (.bin 8 .lss (.t 7) (.c ⟨.int .i64, (19 : Int)⟩)) none <| .op (.mv 9 (.t 8)) none <| .grp 9 false (.op (.mv 10 (.t 0)) (some ([0, 9, 10], [10])) <| .op (.idxA 11 (.t 10) (.c ⟨.int .i64, (0 : Int)⟩) 1 0) (some ([9, 10, 11], [11])) <| .op (.ld 12 11 1 false) (some ([9, 11, 12], [12])) <| .op (.bin 13 .neq (.t 12) (.c ⟨.int .u8, (66 : Int)⟩)) (some ([9, 12, 13], [13])) <| .nil) 13 14 [10, 11, 12, 13] <| .op (.mv 15 (.t 14)) none <| .grp 15 false (.op (.mv 16 (.t 0)) (some ([0, 15, 16], [16])) <| .op (.idxA 17 (.t 16) (.c ⟨.int .i64, (1 : Int)⟩) 1 0) (some ([15, 16, 17], [17])) <| .op (.ld 18 17 1 false) (some ([15, 17, 18], [18])) <| .op (.bin 19 .neq (.t 18) (.c ⟨.int .u8, (87 : Int)⟩)) (some ([15, 18, 19], [19])) <| .nil) 19 20 [16, 17, 18, 19] <| .nil)) <|
  (.cond (.t 20)
  (.seq (.reg (.op (.ld 21 2 6 true) none <| .op (.st 2 (.t 21) 6) none <| .op (.mv 3 (.c ⟨.int .i64, (0 : Int)⟩)) none <| .op (.mv 4 (.c ⟨.bool, (false : Bool)⟩)) none <| .nil)) <|
  .ret)
  .skip)) <|
  (.seq (.regD (.op (.mv 22 (.t 0)) (some ([0, 22], [22])) <| .op (.idxA 23 (.t 22) (.c ⟨.int .i64, (13 : Int)⟩) 1 0) (some ([22, 23], [23])) <| .op (.ld 24 23 1 false) (some ([23, 24], [24])) <| .op (.cvt 25 (.int .i64) (.t 24)) (some ([24, 25], [25])) <| .op (.bin 26 .add (.c ⟨.int .i64, (15 : Int)⟩) (.t 25)) (some ([25, 26], [26])) <| .op (.mv 27 (.t 0)) (some ([0, 27], [27])) <| .op (.idxA 28 (.t 27) (.c ⟨.int .i64, (14 : Int)⟩) 1 0) (some ([27, 28], [28])) <| .op (.ld 29 28 1 false) (some ([28, 29], [29])) <| .op (.cvt 30 (.int .i64) (.t 29)) (some ([29, 30], [30])) <| .op (.bin 31 .shl (.t 30) (.c ⟨.int .u64, (8 : Int)⟩)) (some ([30, 31], [31])) <| .op (.bin 32 .add (.t 26) (.t 31)) (some ([26, 31, 32], [32])) <| .op (.mv 5 (.t 32)) (some ([5, 32], [5])) <| .nil)) <|
  (.seq (.seq (.pre [.keep [0, 2, 5]] (.regD (.op (.mv 33 (.t 0)) (some ([0, 33], [33])) <| .op (.len 34 (.t 33) false) (some ([33, 34], [34])) <| .op (.mv 35 (.t 5)) (some ([5, 35], [35])) <| .op (.bin 36 .add (.t 35) (.c ⟨.int .i64, (4 : Int)⟩)) (some ([35, 36], [36])) <| .op (.bin 37 .lss (.t 34) (.t 36)) (some ([34, 36, 37], [37])) <| .op (.mv 38 (.t 37)) (some ([37, 38], [38])) <| .grp 38 false (.op (.mv 39 (.t 0)) (some ([0, 38, 39], [39])) <| .op (.mv 40 (.t 5)) (some ([5, 38, 40], [40])) <| .op (.slc 41 (.t 39) none (some (.t 40)) none 1) (some ([38, 39, 40, 41], [41])) <| .op (.call (some 42) (bits_Fold.sp n) [.v (.t 41)]) (some ([38, 41, 42], [42])) <| .op (.mv 43 (.t 0)) (some ([0, 38, 43], [43])) <| .op (.mv 44 (.t 5)) (some ([5, 38, 44], [44])) <| .op (.slc 45 (.t 43) (some (.t 44)) none none 1) (some ([38, 43, 44, 45], [45])) <| .op (.call (some 46) (frame_read.sp n) [.v (.t 45)]) (some ([38, 45, 46], [46])) <| .op (.bin 47 .neq (.t 42) (.t 46)) (some ([38, 42, 46, 47], [47])) <| .nil) 47 48 [39, 40, 41, 42, 43, 44, 45, 46, 47] <| .nil))) <|
  (.cond (.t 48)
  (.seq (.reg (.op (.ld 49 2 6 true) none <| .op (.st 2 (.t 49) 6) none <| .op (.mv 3 (.c ⟨.int .i64, (0 : Int)⟩)) none <| .op (.mv 4 (.c ⟨.bool, (false : Bool)⟩)) none <| .nil)) <|
  .ret)
  .skip)) <|
  (.seq (.regD (.op (.mv 50 (.t 0)) (some ([0, 50], [50])) <| .op (.idxA 51 (.t 50) (.c ⟨.int .i64, (2 : Int)⟩) 1 0) (some ([50, 51], [51])) <| .op (.ld 52 51 1 false) (some ([51, 52], [52])) <| .op (.mv 53 (.t 0)) (some ([0, 53], [53])) <| .op (.idxA 54 (.t 53) (.c ⟨.int .i64, (3 : Int)⟩) 1 0) (some ([53, 54], [54])) <| .op (.ld 55 54 1 false) (some ([54, 55], [55])) <| .op (.mv 56 (.t 0)) (some ([0, 56], [56])) <| .op (.idxA 57 (.t 56) (.c ⟨.int .i64, (4 : Int)⟩) 1 0) (some ([56, 57], [57])) <| .op (.ld 58 57 1 false) (some ([57, 58], [58])) <| .op (.mv 59 (.t 0)) (some ([0, 59], [59])) <| .op (.slc 60 (.t 59) (some (.c ⟨.int .i64, (5 : Int)⟩)) none none 1) (some ([59, 60], [60])) <| .op (.call (some 61) (frame_read.sp n) [.v (.t 60)]) (some ([60, 61], [61])) <| .op (.mv 62 (.t 0)) (some ([0, 62], [62])) <| .op (.slc 63 (.t 62) (some (.c ⟨.int .i64, (9 : Int)⟩)) none none 1) (some ([62, 63], [63])) <| .op (.call (some 64) (frame_read.sp n) [.v (.t 63)]) (some ([63, 64], [64])) <| .op (.mv 65 (.t 0)) (some ([0, 65], [65])) <| .op (.mv 66 (.t 5)) (some ([5, 66], [66])) <| .op (.slc 67 (.t 65) (some (.c ⟨.int .i64, (15 : Int)⟩)) (some (.t 66)) none 1) (some ([65, 66, 67], [67])) <| .op (.cvt 68 .b2s (.t 67)) (some ([67, 68], [68])) <| .op (.build 69 ⟨TPacket, ((0, 0, 0, 0, 0, ([] : List Int), ()) : DPacket)⟩ [(0, (.t 52), false), (1, (.t 55), false), (2, (.t 58), false), (3, (.t 61), false), (4, (.t 64), false), (5, (.t 68), false)]) (some ([52, 55, 58, 61, 64, 68, 69], [69])) <| .op (.st 2 (.t 69) 6) (some ([2, 69], [2])) <| .nil)) <|
  (.seq (.pre [.keep [2, 5]] (.regD (.op (.ld 70 2 6 true) (some ([2, 70], [70])) <| .op (.mv 71 (.t 5)) (some ([5, 71], [71])) <| .op (.bin 72 .add (.t 71) (.c ⟨.int .i64, (4 : Int)⟩)) (some ([71, 72], [72])) <| .op (.ld 73 2 6 true) (some ([2, 73], [73])) <| .op (.call (some 74) (frame_Right.sp n) [.v (.t 73)]) (some ([73, 74], [74])) <| .op (.st 2 (.t 70) 6) (some ([2, 70], [2])) <| .op (.mv 3 (.t 72)) (some ([3, 72], [3])) <| .op (.mv 4 (.t 74)) (some ([4, 74], [4])) <| .nil))) <|
  .ret))))))
noncomputable def frame_first.f (n : Nat) (a0 : List Int) : Option (DPacket × Int × Bool × Unit) :=
  (bif (decide ((a0.length : Int) < (19 : Int))) then some true else (idxK a0 (0 : Int) fun e2 => some (!decide (e2 = (66 : Int))))).bind fun g1 =>
  (bif g1 then some true else (idxK a0 (1 : Int) fun e4 => some (!decide (e4 = (87 : Int))))).bind fun g3 =>
  bif g3 then (some ((0, 0, 0, 0, 0, ([] : List Int), ()), 0, false, ()))
  else (idxK a0 (13 : Int) fun e5 => idxK a0 (14 : Int) fun e6 => geK (8 : Int) ((bif (decide ((a0.length : Int) < (IntKind.i64.wrap ((IntKind.i64.wrap ((IntKind.i64.wrap ((15 : Int) + (IntKind.i64.wrap e5))) + (ishl IntKind.i64 (IntKind.i64.wrap e6) ((8 : Int)).toNat))) + (4 : Int))))) then some true else (sliceK 0 (IntKind.i64.wrap ((IntKind.i64.wrap ((15 : Int) + (IntKind.i64.wrap e5))) + (ishl IntKind.i64 (IntKind.i64.wrap e6) ((8 : Int)).toNat))) a0.length ((bits_Fold.f n (cut a0 0 (IntKind.i64.wrap ((IntKind.i64.wrap ((15 : Int) + (IntKind.i64.wrap e5))) + (ishl IntKind.i64 (IntKind.i64.wrap e6) ((8 : Int)).toNat))))).bind fun r8 => sliceK (IntKind.i64.wrap ((IntKind.i64.wrap ((15 : Int) + (IntKind.i64.wrap e5))) + (ishl IntKind.i64 (IntKind.i64.wrap e6) ((8 : Int)).toNat))) (a0.length : Int) a0.length ((frame_read.f n (cut a0 (IntKind.i64.wrap ((IntKind.i64.wrap ((15 : Int) + (IntKind.i64.wrap e5))) + (ishl IntKind.i64 (IntKind.i64.wrap e6) ((8 : Int)).toNat))) (a0.length : Int))).bind fun r9 => some (!decide (r8 = r9)))))).bind fun g7 =>
  bif g7 then (some ((0, 0, 0, 0, 0, ([] : List Int), ()), 0, false, ()))
  else (idxK a0 (2 : Int) fun e10 => idxK a0 (3 : Int) fun e11 => idxK a0 (4 : Int) fun e12 => sliceK (5 : Int) (a0.length : Int) a0.length ((frame_read.f n (cut a0 (5 : Int) (a0.length : Int))).bind fun r13 => sliceK (9 : Int) (a0.length : Int) a0.length ((frame_read.f n (cut a0 (9 : Int) (a0.length : Int))).bind fun r14 => sliceK (15 : Int) (IntKind.i64.wrap ((IntKind.i64.wrap ((15 : Int) + (IntKind.i64.wrap e5))) + (ishl IntKind.i64 (IntKind.i64.wrap e6) ((8 : Int)).toNat))) a0.length ((frame_Right.f n (e10, e11, e12, r13, r14, (cut a0 (15 : Int) (IntKind.i64.wrap ((IntKind.i64.wrap ((15 : Int) + (IntKind.i64.wrap e5))) + (ishl IntKind.i64 (IntKind.i64.wrap e6) ((8 : Int)).toNat)))), ())).bind fun r15 => some ((e10, e11, e12, r13, r14, (cut a0 (15 : Int) (IntKind.i64.wrap ((IntKind.i64.wrap ((15 : Int) + (IntKind.i64.wrap e5))) + (ishl IntKind.i64 (IntKind.i64.wrap e6) ((8 : Int)).toNat)))), ()), (IntKind.i64.wrap ((IntKind.i64.wrap ((IntKind.i64.wrap ((15 : Int) + (IntKind.i64.wrap e5))) + (ishl IntKind.i64 (IntKind.i64.wrap e6) ((8 : Int)).toNat))) + (4 : Int))), r15, ())))))))
theorem frame_first.ok (n : Nat) (a0 : List Int) : evFn (frame_first.c n) frame_first.rs frame_first.ps frame_first.r (a0, ()) = frame_first.f n a0 := by kernel_rfl
noncomputable def frame_first.sp (n : Nat) : FSpec := { f := 28, ps := frame_first.ps, r := frame_first.r, run := fun x => frame_first.f n x.1 }
theorem frame_first.calls (n : Nat) : (frame_first.c n).calls = [bits_Fold.sp n, frame_read.sp n, frame_read.sp n, frame_read.sp n, frame_Right.sp n] := by kernel_rfl
theorem frame_first.fits (n : Nat) : fnB tab hd Try.f28 (frame_first.c n) frame_first.rs (frame_first.sp n).ps (frame_first.sp n).r = true := by kernel_rfl
theorem frame_first.sound (n : Nat) : Sound Try.prog (frame_first.sp n) := by
  refine fnB_sound tabOk eqFacts mixed (fn := Try.f28) (c := frame_first.c n) (rs := frame_first.rs) (by kernel_rfl) ?_ (frame_first.fits n) ?_
  · rw [frame_first.calls]
    intro s hs
    simp only [List.mem_cons, List.not_mem_nil, or_false] at hs
    rcases hs with rfl | rfl | rfl | rfl | rfl
    · exact bits_Fold.sound n
    · exact frame_read.sound n
    · exact frame_read.sound n
    · exact frame_read.sound n
    · exact frame_Right.sound n
  · rintro ⟨a0, ⟨⟩⟩ y h
    exact (frame_first.ok n a0).trans h
/-! backwater/frame.Decode -/
abbrev frame_Decode.ps : List (Ty × Bool) := [(.slB .U false (.int .u8), false)]
abbrev frame_Decode.r : Ty := .tup (.pair TPacket (.pair (.int .i64) .unit))
abbrev frame_Decode.rs : List RV := [.c 2 6 true, .t 3]
abbrev frame_Decode.R : Type := (rtOf frame_Decode.ps frame_Decode.r).den
noncomputable def frame_Decode.c (n : Nat) : XC :=
  (.seq (.reg (.op (.alloc 2 ⟨TPacket, ((0, 0, 0, 0, 0, ([] : List Int), ()) : DPacket)⟩) none <| .op (.mv 3 (.c ⟨.int .i64, (0 : Int)⟩)) none <| .nil)) <|
  (.seq (.reg (.op (.mv 8 (.t 0)) none <| .op (.call (some 9) (frame_first.sp n) [.v (.t 8)]) none <| .op (.take 7 9) none <| .op (.ext 10 7 0) none <| .op (.ext 11 7 1) none <| .op (.ext 12 7 2) none <| .op (.alloc 4 ⟨TPacket, ((0, 0, 0, 0, 0, ([] : List Int), ()) : DPacket)⟩) none <| .op (.st 4 (.t 10) 6) none <| .op (.mv 5 (.t 11)) none <| .op (.mv 6 (.t 12)) none <| .nil)) <|
  (.seq (.seq (.reg (.op (.mv 13 (.t 6)) none <| .op (.un 14 .not (.t 13)) none <| .op (.mv 15 (.t 14)) none <| .grp 15 false (.op (.mv 16 (.t 5)) (some ([5, 15, 16], [16])) <| .op (.mv 17 (.t 0)) (some ([0, 15, 17], [17])) <| .op (.len 18 (.t 17) false) (some ([15, 17, 18], [18])) <| .op (.bin 19 .neq (.t 16) (.t 18)) (some ([15, 16, 18, 19], [19])) <| .nil) 19 20 [16, 17, 18, 19] <| .nil)) <|
  (.cond (.t 20)
  (.seq (.pre [.keep [2]] (.reg (.op (.build 21 ⟨TPacket, ((0, 0, 0, 0, 0, ([] : List Int), ()) : DPacket)⟩ []) none <| .op (.st 2 (.t 21) 6) none <| .op (.mv 3 (.c ⟨.int .i64, (3 : Int)⟩)) none <| .nil))) <|
  .ret)
  .skip)) <|
  (.seq (.pre [.keep [2, 4]] (.reg (.op (.ld 22 4 6 true) none <| .op (.st 2 (.t 22) 6) none <| .op (.mv 3 (.c ⟨.int .i64, (0 : Int)⟩)) none <| .nil))) <|
  .ret))))
noncomputable def frame_Decode.f (n : Nat) (a0 : List Int) : Option (DPacket × Int × Unit) :=
  (frame_first.f n a0).bind fun r1 => (bif (!r1.2.2.1) then some true else (some (!decide (r1.2.1 = (a0.length : Int))))).bind fun g2 =>
  bif g2 then (some ((0, 0, 0, 0, 0, ([] : List Int), ()), 3, ()))
  else (some ((r1.1.1, r1.1.2.1, r1.1.2.2.1, r1.1.2.2.2.1, r1.1.2.2.2.2.1, r1.1.2.2.2.2.2.1, r1.1.2.2.2.2.2.2), 0, ()))
theorem frame_Decode.ok (n : Nat) (a0 : List Int) : evFn (frame_Decode.c n) frame_Decode.rs frame_Decode.ps frame_Decode.r (a0, ()) = frame_Decode.f n a0 := by kernel_rfl
noncomputable def frame_Decode.sp (n : Nat) : FSpec := { f := 15, ps := frame_Decode.ps, r := frame_Decode.r, run := fun x => frame_Decode.f n x.1 }
theorem frame_Decode.calls (n : Nat) : (frame_Decode.c n).calls = [frame_first.sp n] := by kernel_rfl
theorem frame_Decode.fits (n : Nat) : fnB tab hd Try.f15 (frame_Decode.c n) frame_Decode.rs (frame_Decode.sp n).ps (frame_Decode.sp n).r = true := by kernel_rfl
theorem frame_Decode.sound (n : Nat) : Sound Try.prog (frame_Decode.sp n) := by
  refine fnB_sound tabOk eqFacts mixed (fn := Try.f15) (c := frame_Decode.c n) (rs := frame_Decode.rs) (by kernel_rfl) ?_ (frame_Decode.fits n) ?_
  · rw [frame_Decode.calls]
    intro s hs
    simp only [List.mem_cons, List.not_mem_nil, or_false] at hs
    rcases hs with rfl
    · exact frame_first.sound n
  · rintro ⟨a0, ⟨⟩⟩ y h
    exact (frame_Decode.ok n a0).trans h
/-! backwater/backwaterlaw03.live -/
abbrev law03_live.ps : List (Ty × Bool) := []
abbrev law03_live.r : Ty := .bool
abbrev law03_live.rs : List RV := [.t 0]
abbrev law03_live.R : Type := (rtOf law03_live.ps law03_live.r).den
noncomputable def law03_live.c (n : Nat) : XC :=
  (.seq (.reg (.op (.mv 0 (.c ⟨.bool, (false : Bool)⟩)) none <| .nil)) <|
  (.seq (.reg (.op (.build 6 ⟨TPacket, ((0, 0, 0, 0, 0, ([] : List Int), ()) : DPacket)⟩ [(0, (.c ⟨.int .u8, (1 : Int)⟩), false), (1, (.c ⟨.int .u8, (1 : Int)⟩), false), (4, (.c ⟨.int .u32, (1 : Int)⟩), false)]) none <| .op (.alloc 1 ⟨TPacket, ((0, 0, 0, 0, 0, ([] : List Int), ()) : DPacket)⟩) none <| .op (.st 1 (.t 6) 6) none <| .nil)) <|
  (.seq (.reg (.op (.ld 8 1 6 true) none <| .op (.call (some 9) (frame_Encode.sp n) [.v (.t 8)]) none <| .op (.take 7 9) none <| .op (.ext 10 7 0) none <| .op (.ext 11 7 1) none <| .op (.take 2 10) none <| .op (.mv 3 (.t 11)) none <| .nil)) <|
  (.seq (.reg (.op (.bor 13 2) none <| .op (.call (some 14) (frame_Decode.sp n) [.v (.t 13)]) none <| .op (.take 12 14) none <| .op (.ext 15 12 0) none <| .op (.ext 16 12 1) none <| .op (.alloc 4 ⟨TPacket, ((0, 0, 0, 0, 0, ([] : List Int), ()) : DPacket)⟩) none <| .op (.st 4 (.t 15) 6) none <| .op (.mv 5 (.t 16)) none <| .nil)) <|
  (.seq (.reg (.op (.mv 17 (.t 3)) none <| .op (.bin 18 .eql (.t 17) (.c ⟨.int .i64, (0 : Int)⟩)) none <| .op (.mv 19 (.t 18)) none <| .grp 19 true (.op (.bor 20 2) (some ([2, 19, 20], [20])) <| .op (.len 21 (.t 20) false) (some ([2, 19, 20, 21], [21])) <| .op (.bin 22 .eql (.t 21) (.c ⟨.int .i64, (19 : Int)⟩)) (some ([19, 21, 22], [22])) <| .nil) 22 23 [20, 21, 22] <| .op (.mv 24 (.t 23)) none <| .grp 24 true (.op (.mv 25 (.t 5)) (some ([5, 24, 25], [25])) <| .op (.bin 26 .eql (.t 25) (.c ⟨.int .i64, (0 : Int)⟩)) (some ([24, 25, 26], [26])) <| .nil) 26 27 [25, 26] <| .op (.mv 28 (.t 27)) none <| .grp 28 true (.op (.ld 29 4 6 true) (some ([4, 28, 29], [29])) <| .op (.ld 30 1 6 true) (some ([1, 28, 30], [30])) <| .op (.eqs 31 false (.t 29) (.t 30) TPacket) (some ([28, 29, 30, 31], [31])) <| .nil) 31 32 [29, 30, 31] <| .op (.mv 33 (.t 32)) none <| .grp 33 true (.op (.ld 34 1 6 true) (some ([1, 33, 34], [34])) <| .op (.call (some 35) (frame_Right.sp n) [.v (.t 34)]) (some ([33, 34, 35], [35])) <| .nil) 35 36 [34, 35] <| .op (.mv 0 (.t 36)) none <| .nil)) <|
  .ret)))))
noncomputable def law03_live.f (n : Nat)  : Option Bool :=
  (frame_Encode.f n (1, 1, 0, 0, 1, ([] : List Int), ())).bind fun r1 => (frame_Decode.f n r1.1).bind fun r2 => (bif (decide (r1.2.1 = (0 : Int))) then (some (decide ((r1.1.length : Int) = (19 : Int)))) else some false).bind fun g3 =>
  (bif g3 then (some (decide (r2.2.1 = (0 : Int)))) else some false).bind fun g4 =>
  (bif g4 then (some ((eqI r2.1.1 (1 : Int) && (eqI r2.1.2.1 (1 : Int) && (eqI r2.1.2.2.1 (0 : Int) && (eqI r2.1.2.2.2.1 (0 : Int) && (eqI r2.1.2.2.2.2.1 (1 : Int) && (eqS r2.1.2.2.2.2.2.1 ([] : List Int) && true)))))))) else some false).bind fun g5 =>
  (bif g5 then ((frame_Right.f n (1, 1, 0, 0, 1, ([] : List Int), ())).bind fun r7 => some r7) else some false).bind fun g6 =>
  some g6
theorem law03_live.ok (n : Nat)  : evFn (law03_live.c n) law03_live.rs law03_live.ps law03_live.r () = law03_live.f n  := by kernel_rfl
noncomputable def law03_live.sp (n : Nat) : FSpec := { f := 12, ps := law03_live.ps, r := law03_live.r, run := fun x => law03_live.f n  }
theorem law03_live.calls (n : Nat) : (law03_live.c n).calls = [frame_Encode.sp n, frame_Decode.sp n, frame_Right.sp n] := by kernel_rfl
theorem law03_live.fits (n : Nat) : fnB tab hd Try.f12 (law03_live.c n) law03_live.rs (law03_live.sp n).ps (law03_live.sp n).r = true := by kernel_rfl
theorem law03_live.sound (n : Nat) : Sound Try.prog (law03_live.sp n) := by
  refine fnB_sound tabOk eqFacts mixed (fn := Try.f12) (c := law03_live.c n) (rs := law03_live.rs) (by kernel_rfl) ?_ (law03_live.fits n) ?_
  · rw [law03_live.calls]
    intro s hs
    simp only [List.mem_cons, List.not_mem_nil, or_false] at hs
    rcases hs with rfl | rfl | rfl
    · exact frame_Encode.sound n
    · exact frame_Decode.sound n
    · exact frame_Right.sound n
  · rintro ⟨⟩ y h
    exact (law03_live.ok n ).trans h
/-! backwater/backwaterlaw03.FrameWrites -/
abbrev law03_FrameWrites.ps : List (Ty × Bool) := [(TPacket, false)]
abbrev law03_FrameWrites.r : Ty := .bool
abbrev law03_FrameWrites.rs : List RV := [.t 2]
abbrev law03_FrameWrites.R : Type := (rtOf law03_FrameWrites.ps law03_FrameWrites.r).den
noncomputable def law03_FrameWrites.c (n : Nat) : XC :=
  (.seq (.reg (.op (.boxv 1 (.t 0)) none <| .op (.mv 2 (.c ⟨.bool, (false : Bool)⟩)) none <| .nil)) <|
  (.seq (.reg (.op (.ld 8 1 6 true) none <| .op (.call (some 9) (frame_Encode.sp n) [.v (.t 8)]) none <| .op (.take 7 9) none <| .op (.ext 10 7 0) none <| .op (.ext 11 7 1) none <| .op (.take 3 10) none <| .op (.mv 4 (.t 11)) none <| .nil)) <|
  (.seq (.reg (.op (.ld 13 1 6 true) none <| .op (.call (some 14) (r03_Encode.sp n) [.v (.t 13)]) none <| .op (.take 12 14) none <| .op (.ext 15 12 0) none <| .op (.ext 16 12 1) none <| .op (.take 5 15) none <| .op (.mv 6 (.t 16)) none <| .nil)) <|
  (.seq (.regD (.op (.call (some 17) (law03_live.sp n) []) (some ([17], [17])) <| .op (.mv 18 (.t 17)) (some ([17, 18], [18])) <| .grp 18 true (.op (.bor 19 3) (some ([3, 18, 19], [19])) <| .op (.cvt 20 .b2s (.t 19)) (some ([3, 18, 19, 20], [20])) <| .op (.bor 21 5) (some ([5, 18, 21], [21])) <| .op (.cvt 22 .b2s (.t 21)) (some ([5, 18, 21, 22], [22])) <| .op (.bin 23 .eql (.t 20) (.t 22)) (some ([18, 20, 22, 23], [23])) <| .nil) 23 24 [19, 20, 21, 22, 23] <| .op (.mv 25 (.t 24)) (some ([24, 25], [25])) <| .grp 25 true (.op (.mv 26 (.t 4)) (some ([4, 25, 26], [26])) <| .op (.mv 27 (.t 6)) (some ([6, 25, 27], [27])) <| .op (.bin 28 .eql (.t 26) (.t 27)) (some ([25, 26, 27, 28], [28])) <| .nil) 28 29 [26, 27, 28] <| .op (.mv 30 (.t 29)) (some ([29, 30], [30])) <| .grp 30 true (.op (.ld 31 1 6 true) (some ([1, 30, 31], [31])) <| .op (.call (some 32) (frame_Right.sp n) [.v (.t 31)]) (some ([30, 31, 32], [32])) <| .op (.ld 33 1 6 true) (some ([1, 30, 33], [33])) <| .op (.call (some 34) (r03_Right.sp n) [.v (.t 33)]) (some ([30, 33, 34], [34])) <| .op (.eqs 35 false (.t 32) (.t 34) .bool) (some ([30, 32, 34, 35], [35])) <| .nil) 35 36 [31, 32, 33, 34, 35] <| .op (.mv 2 (.t 36)) (some ([2, 36], [2])) <| .nil)) <|
  .ret))))
noncomputable def law03_FrameWrites.f (n : Nat) (a0 : DPacket) : Option Bool :=
  (frame_Encode.f n (a0.1, a0.2.1, a0.2.2.1, a0.2.2.2.1, a0.2.2.2.2.1, a0.2.2.2.2.2.1, a0.2.2.2.2.2.2)).bind fun r1 => (r03_Encode.f n (a0.1, a0.2.1, a0.2.2.1, a0.2.2.2.1, a0.2.2.2.2.1, a0.2.2.2.2.2.1, a0.2.2.2.2.2.2)).bind fun r2 => (law03_live.f n).bind fun r3 => (bif r3 then (some (decide (r1.1 = r2.1))) else some false).bind fun g4 =>
  (bif g4 then (some (decide (r1.2.1 = r2.2.1))) else some false).bind fun g5 =>
  (bif g5 then ((frame_Right.f n (a0.1, a0.2.1, a0.2.2.1, a0.2.2.2.1, a0.2.2.2.2.1, a0.2.2.2.2.2.1, a0.2.2.2.2.2.2)).bind fun r7 => (r03_Right.f n (a0.1, a0.2.1, a0.2.2.1, a0.2.2.2.1, a0.2.2.2.2.1, a0.2.2.2.2.2.1, a0.2.2.2.2.2.2)).bind fun r8 => some (bbeq r7 r8)) else some false).bind fun g6 =>
  some g6
theorem law03_FrameWrites.ok (n : Nat) (a0 : DPacket) : evFn (law03_FrameWrites.c n) law03_FrameWrites.rs law03_FrameWrites.ps law03_FrameWrites.r (a0, ()) = law03_FrameWrites.f n a0 := by kernel_rfl
noncomputable def law03_FrameWrites.sp (n : Nat) : FSpec := { f := 3, ps := law03_FrameWrites.ps, r := law03_FrameWrites.r, run := fun x => law03_FrameWrites.f n x.1 }
theorem law03_FrameWrites.calls (n : Nat) : (law03_FrameWrites.c n).calls = [frame_Encode.sp n, r03_Encode.sp n, law03_live.sp n, frame_Right.sp n, r03_Right.sp n] := by kernel_rfl
theorem law03_FrameWrites.fits (n : Nat) : fnB tab hd Try.f3 (law03_FrameWrites.c n) law03_FrameWrites.rs (law03_FrameWrites.sp n).ps (law03_FrameWrites.sp n).r = true := by kernel_rfl
theorem law03_FrameWrites.sound (n : Nat) : Sound Try.prog (law03_FrameWrites.sp n) := by
  refine fnB_sound tabOk eqFacts mixed (fn := Try.f3) (c := law03_FrameWrites.c n) (rs := law03_FrameWrites.rs) (by kernel_rfl) ?_ (law03_FrameWrites.fits n) ?_
  · rw [law03_FrameWrites.calls]
    intro s hs
    simp only [List.mem_cons, List.not_mem_nil, or_false] at hs
    rcases hs with rfl | rfl | rfl | rfl | rfl
    · exact frame_Encode.sound n
    · exact r03_Encode.sound n
    · exact law03_live.sound n
    · exact frame_Right.sound n
    · exact r03_Right.sound n
  · rintro ⟨a0, ⟨⟩⟩ y h
    exact (law03_FrameWrites.ok n a0).trans h
/-! backwater/backwaterlaw03.few -/
abbrev law03_few.ps : List (Ty × Bool) := [(.slB .U false (.int .u8), false)]
abbrev law03_few.r : Ty := .slB .U false (.int .u8)
abbrev law03_few.rs : List RV := [.t 2]
abbrev law03_few.R : Type := (rtOf law03_few.ps law03_few.r).den
noncomputable def law03_few.c (n : Nat) : XC :=
  (.seq (.reg (.op (.mv 2 (.c ⟨.nil 0, ()⟩)) none <| .nil)) <|
  (.seq (.seq (.reg (.op (.mv 3 (.t 0)) none <| .op (.len 4 (.t 3) false) none <| .op (.bin 5 .gtr (.t 4) (.c ⟨.int .i64, (40000 : Int)⟩)) none <| .nil)) <|
  (.cond (.t 5)
  (.seq (.reg (.op (.mv 6 (.t 0)) none <| .op (.slc 7 (.t 6) none (some (.c ⟨.int .i64, (40000 : Int)⟩)) none 1) none <| .op (.mv 2 (.t 7)) none <| .nil)) <|
  .ret)
  .skip)) <|
  (.seq (.reg (.op (.mv 8 (.t 0)) none <| .op (.mv 2 (.t 8)) none <| .nil)) <|
  .ret)))
noncomputable def law03_few.f (n : Nat) (a0 : List Int) : Option (List Int) :=
  bif (decide ((40000 : Int) < (a0.length : Int))) then (sliceK 0 (40000 : Int) a0.length (some (cut a0 0 (40000 : Int))))
  else (some a0)
theorem law03_few.ok (n : Nat) (a0 : List Int) : evFn (law03_few.c n) law03_few.rs law03_few.ps law03_few.r (a0, ()) = law03_few.f n a0 := by kernel_rfl
noncomputable def law03_few.sp (n : Nat) : FSpec := { f := 16, ps := law03_few.ps, r := law03_few.r, run := fun x => law03_few.f n x.1 }
theorem law03_few.calls (n : Nat) : (law03_few.c n).calls = [] := by kernel_rfl
theorem law03_few.fits (n : Nat) : fnB tab hd Try.f16 (law03_few.c n) law03_few.rs (law03_few.sp n).ps (law03_few.sp n).r = true := by kernel_rfl
theorem law03_few.sound (n : Nat) : Sound Try.prog (law03_few.sp n) := by
  refine fnB_sound tabOk eqFacts mixed (fn := Try.f16) (c := law03_few.c n) (rs := law03_few.rs) (by kernel_rfl) ?_ (law03_few.fits n) ?_
  · rw [law03_few.calls]
    intro s hs; cases hs
  · rintro ⟨a0, ⟨⟩⟩ y h
    exact (law03_few.ok n a0).trans h
/-! backwater/backwaterlaw03.FrameBack -/
abbrev law03_FrameBack.ps : List (Ty × Bool) := [(TPacket, false), (.slB .U false (.int .u8), false)]
abbrev law03_FrameBack.r : Ty := .bool
abbrev law03_FrameBack.rs : List RV := [.t 4]
abbrev law03_FrameBack.R : Type := (rtOf law03_FrameBack.ps law03_FrameBack.r).den
noncomputable def law03_FrameBack.c1 (n : Nat) : XC :=
  (.seq (.reg (.op (.mv 42 (.t 1)) none <| .op (.call (some 43) (law03_few.sp n) [.v (.t 42)]) none <| .op (.call (some 44) (frame_Decode.sp n) [.v (.t 43)]) none <| .op (.take 41 44) none <| .op (.ext 45 41 0) none <| .op (.ext 46 41 1) none <| .op (.alloc 9 ⟨TPacket, ((0, 0, 0, 0, 0, ([] : List Int), ()) : DPacket)⟩) none <| .op (.st 9 (.t 45) 6) none <| .op (.mv 10 (.t 46)) none <| .nil)) <|
  (.seq (.seq (.reg (.op (.mv 47 (.t 10)) none <| .op (.bin 48 .neq (.t 47) (.c ⟨.int .i64, (0 : Int)⟩)) none <| .nil)) <|
  (.cond (.t 48)
  (.seq (.reg (.op (.call (some 49) (law03_live.sp n) []) none <| .op (.mv 50 (.t 49)) none <| .grp 50 true (.op (.mv 51 (.t 10)) (some ([10, 50, 51], [51])) <| .op (.bin 52 .eql (.t 51) (.c ⟨.int .i64, (3 : Int)⟩)) (some ([50, 51, 52], [52])) <| .nil) 52 53 [51, 52] <| .op (.mv 54 (.t 53)) none <| .grp 54 true (.op (.ld 55 9 6 true) (some ([9, 54, 55], [55])) <| .op (.build 56 ⟨TPacket, ((0, 0, 0, 0, 0, ([] : List Int), ()) : DPacket)⟩ []) (some ([54, 56], [56])) <| .op (.eqs 57 false (.t 55) (.t 56) TPacket) (some ([54, 55, 56, 57], [57])) <| .nil) 57 58 [55, 56, 57] <| .op (.mv 4 (.t 58)) none <| .nil)) <|
  .ret)
  .skip)) <|
  (.seq (.reg (.op (.ld 60 9 6 true) none <| .op (.call (some 61) (frame_Encode.sp n) [.v (.t 60)]) none <| .op (.take 59 61) none <| .op (.ext 62 59 0) none <| .op (.ext 63 59 1) none <| .op (.take 11 62) none <| .op (.mv 12 (.t 63)) none <| .nil)) <|
  (.seq (.pre [.keep [1, 11, 12]] (.regD (.op (.call (some 64) (law03_live.sp n) []) (some ([64], [64])) <| .op (.mv 65 (.t 64)) (some ([64, 65], [65])) <| .grp 65 true (.op (.mv 66 (.t 12)) (some ([12, 65, 66], [66])) <| .op (.bin 67 .eql (.t 66) (.c ⟨.int .i64, (0 : Int)⟩)) (some ([65, 66, 67], [67])) <| .nil) 67 68 [66, 67] <| .op (.mv 69 (.t 68)) (some ([68, 69], [69])) <| .grp 69 true (.op (.bor 70 11) (some ([11, 69, 70], [70])) <| .op (.cvt 71 .b2s (.t 70)) (some ([11, 69, 70, 71], [71])) <| .op (.mv 72 (.t 1)) (some ([1, 69, 72], [72])) <| .op (.call (some 73) (law03_few.sp n) [.v (.t 72)]) (some ([69, 72, 73], [73])) <| .op (.cvt 74 .b2s (.t 73)) (some ([69, 73, 74], [74])) <| .op (.bin 75 .eql (.t 71) (.t 74)) (some ([69, 71, 74, 75], [75])) <| .nil) 75 76 [70, 71, 72, 73, 74, 75] <| .op (.mv 4 (.t 76)) (some ([4, 76], [4])) <| .nil))) <|
  .ret))))
noncomputable def law03_FrameBack.j1 (n : Nat) (x1 : List Int) : Option Bool :=
  (law03_few.f n x1).bind fun r1 => (frame_Decode.f n r1).bind fun r2 => bif (!decide (r2.2.1 = (0 : Int))) then ((law03_live.f n).bind fun r3 => (bif r3 then (some (decide (r2.2.1 = (3 : Int)))) else some false).bind fun g4 =>
  (bif g4 then (some ((eqI r2.1.1 (0 : Int) && (eqI r2.1.2.1 (0 : Int) && (eqI r2.1.2.2.1 (0 : Int) && (eqI r2.1.2.2.2.1 (0 : Int) && (eqI r2.1.2.2.2.2.1 (0 : Int) && (eqS r2.1.2.2.2.2.2.1 ([] : List Int) && true)))))))) else some false).bind fun g5 =>
  some g5)
  else ((frame_Encode.f n (r2.1.1, r2.1.2.1, r2.1.2.2.1, r2.1.2.2.2.1, r2.1.2.2.2.2.1, r2.1.2.2.2.2.2.1, r2.1.2.2.2.2.2.2)).bind fun r6 => (law03_live.f n).bind fun r7 => (bif r7 then (some (decide (r6.2.1 = (0 : Int)))) else some false).bind fun g8 =>
  (bif g8 then ((law03_few.f n x1).bind fun r10 => some (decide (r6.1 = r10))) else some false).bind fun g9 =>
  some g9)
theorem law03_FrameBack.s1 (n : Nat) (x1 : List Int) : ev (law03_FrameBack.c1 n) [(1, some ⟨.slB .U false (.int .u8), x1⟩)] (⟨retK law03_FrameBack.rs law03_FrameBack.ps law03_FrameBack.r, []⟩ : Ks law03_FrameBack.R) (retK law03_FrameBack.rs law03_FrameBack.ps law03_FrameBack.r) = law03_FrameBack.j1 n x1 := by kernel_rfl
noncomputable def law03_FrameBack.K1 (n : Nat) : St → Option law03_FrameBack.R := fun st => ghK [.keep [1]] st fun st => ev (law03_FrameBack.c1 n) st (⟨retK law03_FrameBack.rs law03_FrameBack.ps law03_FrameBack.r, []⟩ : Ks law03_FrameBack.R) (retK law03_FrameBack.rs law03_FrameBack.ps law03_FrameBack.r)
noncomputable def law03_FrameBack.c (n : Nat) : XC :=
  (.seq (.reg (.op (.boxv 2 (.t 0)) none <| .op (.mv 4 (.c ⟨.bool, (false : Bool)⟩)) none <| .nil)) <|
  (.seq (.aft (.seq (.reg (.op (.ld 14 2 6 true) none <| .op (.call (some 15) (frame_Encode.sp n) [.v (.t 14)]) none <| .op (.take 13 15) none <| .op (.ext 16 13 0) none <| .op (.ext 17 13 1) none <| .op (.take 5 16) none <| .op (.mv 6 (.t 17)) none <| .nil)) <|
  (.seq (.reg (.op (.mv 18 (.t 6)) none <| .op (.bin 19 .eql (.t 18) (.c ⟨.int .i64, (0 : Int)⟩)) none <| .nil)) <|
  (.cond (.t 19)
  (.seq (.reg (.op (.bor 21 5) none <| .op (.call (some 22) (frame_Decode.sp n) [.v (.t 21)]) none <| .op (.take 20 22) none <| .op (.ext 23 20 0) none <| .op (.ext 24 20 1) none <| .op (.alloc 7 ⟨TPacket, ((0, 0, 0, 0, 0, ([] : List Int), ()) : DPacket)⟩) none <| .op (.st 7 (.t 23) 6) none <| .op (.mv 8 (.t 24)) none <| .nil)) <|
  (.seq (.pre [.keep [1, 2, 5, 7, 8]] (.reg (.op (.mv 25 (.t 8)) none <| .op (.bin 26 .neq (.t 25) (.c ⟨.int .i64, (0 : Int)⟩)) none <| .op (.mv 27 (.t 26)) none <| .grp 27 false (.op (.ld 28 7 6 true) (some ([7, 27, 28], [28])) <| .op (.ld 29 2 6 true) (some ([2, 27, 29], [29])) <| .op (.eqs 30 true (.t 28) (.t 29) TPacket) (some ([27, 28, 29, 30], [30])) <| .nil) 30 31 [28, 29, 30] <| .op (.mv 32 (.t 31)) none <| .grp 32 false (.op (.bor 33 5) (some ([5, 32, 33], [33])) <| .op (.len 34 (.t 33) false) (some ([5, 32, 33, 34], [34])) <| .op (.fa 35 2 5 5) (some ([2, 32, 35], [35])) <| .op (.ld 36 35 1 false) (some ([2, 32, 35, 36], [36])) <| .op (.len 37 (.t 36) true) (some ([32, 36, 37], [37])) <| .op (.bin 38 .add (.c ⟨.int .i64, (19 : Int)⟩) (.t 37)) (some ([32, 37, 38], [38])) <| .op (.bin 39 .neq (.t 34) (.t 38)) (some ([32, 34, 38, 39], [39])) <| .nil) 39 40 [33, 34, 35, 36, 37, 38, 39] <| .nil))) <|
  (.cond (.t 40)
  (.seq (.pre [.keep []] (.reg (.op (.mv 4 (.c ⟨.bool, (false : Bool)⟩)) none <| .nil))) <|
  .ret)
  .skip)))
  .skip))) [.keep [1]]) (law03_FrameBack.c1 n)))
noncomputable def law03_FrameBack.f (n : Nat) (a0 : DPacket) (a1 : List Int) : Option Bool :=
  (frame_Encode.f n (a0.1, a0.2.1, a0.2.2.1, a0.2.2.2.1, a0.2.2.2.2.1, a0.2.2.2.2.2.1, a0.2.2.2.2.2.2)).bind fun r1 => bif (decide (r1.2.1 = (0 : Int))) then ((frame_Decode.f n r1.1).bind fun r2 => (bif (!decide (r2.2.1 = (0 : Int))) then some true else (some (!(eqI r2.1.1 a0.1 && (eqI r2.1.2.1 a0.2.1 && (eqI r2.1.2.2.1 a0.2.2.1 && (eqI r2.1.2.2.2.1 a0.2.2.2.1 && (eqI r2.1.2.2.2.2.1 a0.2.2.2.2.1 && (eqS r2.1.2.2.2.2.2.1 a0.2.2.2.2.2.1 && true))))))))).bind fun g3 =>
  (bif g3 then some true else (some (!decide ((r1.1.length : Int) = (IntKind.i64.wrap ((19 : Int) + (a0.2.2.2.2.2.1.length : Int))))))).bind fun g4 =>
  bif g4 then (some false)
  else (law03_FrameBack.j1 n a1))
  else (law03_FrameBack.j1 n a1)
theorem law03_FrameBack.w (n : Nat) (a0 : DPacket) (a1 : List Int) : evFn (law03_FrameBack.c n) law03_FrameBack.rs law03_FrameBack.ps law03_FrameBack.r (a0, a1, ()) =
  ((frame_Encode.f n (a0.1, a0.2.1, a0.2.2.1, a0.2.2.2.1, a0.2.2.2.2.1, a0.2.2.2.2.2.1, a0.2.2.2.2.2.2)).bind fun r1 => bif (decide (r1.2.1 = (0 : Int))) then ((frame_Decode.f n r1.1).bind fun r2 => (bif (!decide (r2.2.1 = (0 : Int))) then some true else (some (!(eqI r2.1.1 a0.1 && (eqI r2.1.2.1 a0.2.1 && (eqI r2.1.2.2.1 a0.2.2.1 && (eqI r2.1.2.2.2.1 a0.2.2.2.1 && (eqI r2.1.2.2.2.2.1 a0.2.2.2.2.1 && (eqS r2.1.2.2.2.2.2.1 a0.2.2.2.2.2.1 && true))))))))).bind fun g3 =>
  (bif g3 then some true else (some (!decide ((r1.1.length : Int) = (IntKind.i64.wrap ((19 : Int) + (a0.2.2.2.2.2.1.length : Int))))))).bind fun g4 =>
  bif g4 then (some false)
  else (ev (law03_FrameBack.c1 n) [(1, some ⟨.slB .U false (.int .u8), a1⟩)] (⟨retK law03_FrameBack.rs law03_FrameBack.ps law03_FrameBack.r, []⟩ : Ks law03_FrameBack.R) (retK law03_FrameBack.rs law03_FrameBack.ps law03_FrameBack.r)))
  else (ev (law03_FrameBack.c1 n) [(1, some ⟨.slB .U false (.int .u8), a1⟩)] (⟨retK law03_FrameBack.rs law03_FrameBack.ps law03_FrameBack.r, []⟩ : Ks law03_FrameBack.R) (retK law03_FrameBack.rs law03_FrameBack.ps law03_FrameBack.r)) : Option law03_FrameBack.R) := by kernel_rfl
theorem law03_FrameBack.ok (n : Nat) (a0 : DPacket) (a1 : List Int) : evFn (law03_FrameBack.c n) law03_FrameBack.rs law03_FrameBack.ps law03_FrameBack.r (a0, a1, ()) = law03_FrameBack.f n a0 a1 := (law03_FrameBack.w n a0 a1).trans (by simp only [law03_FrameBack.f, law03_FrameBack.s1 n] <;> kernel_rfl)
noncomputable def law03_FrameBack.sp (n : Nat) : FSpec := { f := 4, ps := law03_FrameBack.ps, r := law03_FrameBack.r, run := fun x => law03_FrameBack.f n x.1 x.2.1 }
theorem law03_FrameBack.calls (n : Nat) : (law03_FrameBack.c n).calls = [frame_Encode.sp n, frame_Decode.sp n, law03_few.sp n, frame_Decode.sp n, law03_live.sp n, frame_Encode.sp n, law03_live.sp n, law03_few.sp n] := by kernel_rfl
theorem law03_FrameBack.fits (n : Nat) : fnB tab hd Try.f4 (law03_FrameBack.c n) law03_FrameBack.rs (law03_FrameBack.sp n).ps (law03_FrameBack.sp n).r = true := by kernel_rfl
theorem law03_FrameBack.sound (n : Nat) : Sound Try.prog (law03_FrameBack.sp n) := by
  refine fnB_sound tabOk eqFacts mixed (fn := Try.f4) (c := law03_FrameBack.c n) (rs := law03_FrameBack.rs) (by kernel_rfl) ?_ (law03_FrameBack.fits n) ?_
  · rw [law03_FrameBack.calls]
    intro s hs
    simp only [List.mem_cons, List.not_mem_nil, or_false] at hs
    rcases hs with rfl | rfl | rfl | rfl | rfl | rfl | rfl | rfl
    · exact frame_Encode.sound n
    · exact frame_Decode.sound n
    · exact law03_few.sound n
    · exact frame_Decode.sound n
    · exact law03_live.sound n
    · exact frame_Encode.sound n
    · exact law03_live.sound n
    · exact law03_few.sound n
  · rintro ⟨a0, a1, ⟨⟩⟩ y h
    exact (law03_FrameBack.ok n a0 a1).trans h
/-! backwater/backwaterlaw03.FrameTurned -/
abbrev law03_FrameTurned.ps : List (Ty × Bool) := [(TPacket, false), (.int .u16, false), (.int .u8, false)]
abbrev law03_FrameTurned.r : Ty := .bool
abbrev law03_FrameTurned.rs : List RV := [.t 6]
abbrev law03_FrameTurned.R : Type := (rtOf law03_FrameTurned.ps law03_FrameTurned.r).den
noncomputable def law03_FrameTurned.c (n : Nat) : XC :=
  (.seq (.reg (.op (.boxv 3 (.t 0)) none <| .op (.mv 6 (.c ⟨.bool, (false : Bool)⟩)) none <| .nil)) <|
  (.seq (.reg (.op (.ld 13 3 6 true) none <| .op (.call (some 14) (frame_Encode.sp n) [.v (.t 13)]) none <| .op (.take 12 14) none <| .op (.ext 15 12 0) none <| .op (.ext 16 12 1) none <| .op (.take 7 15) none <| .op (.mv 8 (.t 16)) none <| .nil)) <|
  (.seq (.seq (.reg (.op (.mv 17 (.t 8)) none <| .op (.bin 18 .neq (.t 17) (.c ⟨.int .i64, (0 : Int)⟩)) none <| .op (.mv 19 (.t 18)) none <| .grp 19 false (.op (.mv 20 (.t 2)) (some ([2, 19, 20], [20])) <| .op (.bin 21 .eql (.t 20) (.c ⟨.int .u8, (0 : Int)⟩)) (some ([19, 20, 21], [21])) <| .nil) 21 22 [20, 21] <| .op (.mv 23 (.t 22)) none <| .grp 23 false (.op (.bor 24 7) (some ([7, 23, 24], [24])) <| .op (.len 25 (.t 24) false) (some ([7, 23, 24, 25], [25])) <| .op (.bin 26 .lss (.t 25) (.c ⟨.int .i64, (19 : Int)⟩)) (some ([23, 25, 26], [26])) <| .nil) 26 27 [24, 25, 26] <| .nil)) <|
  (.cond (.t 27)
  (.seq (.pre [.keep [8]] (.reg (.op (.call (some 28) (law03_live.sp n) []) none <| .op (.mv 29 (.t 28)) none <| .grp 29 true (.op (.mv 30 (.t 8)) (some ([8, 29, 30], [30])) <| .op (.bin 31 .eql (.t 30) (.c ⟨.int .i64, (0 : Int)⟩)) (some ([29, 30, 31], [31])) <| .op (.mv 32 (.t 31)) (some ([29, 31, 32], [32])) <| .grp 32 false (.op (.mv 33 (.t 8)) (some ([8, 32, 33], [33])) <| .op (.bin 34 .eql (.t 33) (.c ⟨.int .i64, (3 : Int)⟩)) (some ([32, 33, 34], [34])) <| .nil) 34 35 [33, 34] <| .nil) 35 36 [30, 31, 32, 33, 34, 35] <| .op (.mv 6 (.t 36)) none <| .nil))) <|
  .ret)
  .skip)) <|
  (.seq (.pre [.keep [1, 2, 3, 7]] (.reg (.op (.bsl 37 (.int .u8) []) none <| .op (.bor 38 7) none <| .op (.app 39 37 (.t 38) 1 1) none <| .op (.take 9 39) none <| .nil))) <|
  (.seq (.reg (.op (.als 40 9) none <| .op (.mv 41 (.t 1)) none <| .op (.cvt 42 (.int .i64) (.t 41)) none <| .op (.bor 43 9) none <| .op (.len 44 (.t 43) false) none <| .op (.bin 45 .rem (.t 42) (.t 44)) none <| .op (.idxE 46 (.t 40) (.t 45) 1) none <| .op (.ldE 47 46 1 false) none <| .op (.mv 48 (.t 2)) none <| .op (.bin 49 .xor (.t 47) (.t 48)) none <| .op (.idxE 50 (.t 40) (.t 45) 1) none <| .op (.stE 50 (.t 49) 1) none <| .nil)) <|
  (.seq (.pre [.keep [3, 9]] (.reg (.op (.bor 52 9) none <| .op (.call (some 53) (frame_Decode.sp n) [.v (.t 52)]) none <| .op (.take 51 53) none <| .op (.ext 54 51 0) none <| .op (.ext 55 51 1) none <| .op (.alloc 10 ⟨TPacket, ((0, 0, 0, 0, 0, ([] : List Int), ()) : DPacket)⟩) none <| .op (.st 10 (.t 54) 6) none <| .op (.mv 11 (.t 55)) none <| .nil))) <|
  (.seq (.reg (.op (.call (some 56) (law03_live.sp n) []) none <| .op (.mv 57 (.t 56)) none <| .grp 57 true (.op (.mv 58 (.t 11)) (some ([11, 57, 58], [58])) <| .op (.bin 59 .neq (.t 58) (.c ⟨.int .i64, (0 : Int)⟩)) (some ([57, 58, 59], [59])) <| .op (.mv 60 (.t 59)) (some ([57, 59, 60], [60])) <| .grp 60 false (.op (.ld 61 10 6 true) (some ([10, 60, 61], [61])) <| .op (.ld 62 3 6 true) (some ([3, 60, 62], [62])) <| .op (.eqs 63 true (.t 61) (.t 62) TPacket) (some ([60, 61, 62, 63], [63])) <| .nil) 63 64 [61, 62, 63] <| .nil) 64 65 [58, 59, 60, 61, 62, 63, 64] <| .op (.mv 6 (.t 65)) none <| .nil)) <|
  .ret)))))))
noncomputable def law03_FrameTurned.f (n : Nat) (a0 : DPacket) (a1 : Int) (a2 : Int) : Option Bool :=
  (frame_Encode.f n (a0.1, a0.2.1, a0.2.2.1, a0.2.2.2.1, a0.2.2.2.2.1, a0.2.2.2.2.2.1, a0.2.2.2.2.2.2)).bind fun r1 => (bif (!decide (r1.2.1 = (0 : Int))) then some true else (some (decide (a2 = (0 : Int))))).bind fun g2 =>
  (bif g2 then some true else (some (decide ((r1.1.length : Int) < (19 : Int))))).bind fun g3 =>
  bif g3 then ((law03_live.f n).bind fun r4 => (bif r4 then ((bif (decide (r1.2.1 = (0 : Int))) then some true else (some (decide (r1.2.1 = (3 : Int))))).bind fun g6 =>
  some g6) else some false).bind fun g5 =>
  some g5)
  else (appK ([] : List Int).length r1.1.length 1 (nzK ((([] : List Int) ++ r1.1).length : Int) (inK' (Int.tmod (IntKind.i64.wrap a1) ((([] : List Int) ++ r1.1).length : Int)) (([] : List Int) ++ r1.1).length (idxK (([] : List Int) ++ r1.1) (Int.tmod (IntKind.i64.wrap a1) ((([] : List Int) ++ r1.1).length : Int)) fun e7 => inK' (Int.tmod (IntKind.i64.wrap a1) ((([] : List Int) ++ r1.1).length : Int)) (([] : List Int) ++ r1.1).length (idxK (([] : List Int) ++ r1.1) (Int.tmod (IntKind.i64.wrap a1) ((([] : List Int) ++ r1.1).length : Int)) fun e8 => (frame_Decode.f n (lset (([] : List Int) ++ r1.1) (Int.tmod (IntKind.i64.wrap a1) ((([] : List Int) ++ r1.1).length : Int)) (ixor IntKind.u8 e7 a2))).bind fun r9 => (law03_live.f n).bind fun r10 => (bif r10 then ((bif (!decide (r9.2.1 = (0 : Int))) then some true else (some (!(eqI r9.1.1 a0.1 && (eqI r9.1.2.1 a0.2.1 && (eqI r9.1.2.2.1 a0.2.2.1 && (eqI r9.1.2.2.2.1 a0.2.2.2.1 && (eqI r9.1.2.2.2.2.1 a0.2.2.2.2.1 && (eqS r9.1.2.2.2.2.2.1 a0.2.2.2.2.2.1 && true))))))))).bind fun g12 =>
  some g12) else some false).bind fun g11 =>
  some g11)))))
theorem law03_FrameTurned.ok (n : Nat) (a0 : DPacket) (a1 : Int) (a2 : Int) : evFn (law03_FrameTurned.c n) law03_FrameTurned.rs law03_FrameTurned.ps law03_FrameTurned.r (a0, a1, a2, ()) = law03_FrameTurned.f n a0 a1 a2 := by kernel_rfl
noncomputable def law03_FrameTurned.sp (n : Nat) : FSpec := { f := 5, ps := law03_FrameTurned.ps, r := law03_FrameTurned.r, run := fun x => law03_FrameTurned.f n x.1 x.2.1 x.2.2.1 }
theorem law03_FrameTurned.calls (n : Nat) : (law03_FrameTurned.c n).calls = [frame_Encode.sp n, law03_live.sp n, frame_Decode.sp n, law03_live.sp n] := by kernel_rfl
theorem law03_FrameTurned.fits (n : Nat) : fnB tab hd Try.f5 (law03_FrameTurned.c n) law03_FrameTurned.rs (law03_FrameTurned.sp n).ps (law03_FrameTurned.sp n).r = true := by kernel_rfl
theorem law03_FrameTurned.sound (n : Nat) : Sound Try.prog (law03_FrameTurned.sp n) := by
  refine fnB_sound tabOk eqFacts mixed (fn := Try.f5) (c := law03_FrameTurned.c n) (rs := law03_FrameTurned.rs) (by kernel_rfl) ?_ (law03_FrameTurned.fits n) ?_
  · rw [law03_FrameTurned.calls]
    intro s hs
    simp only [List.mem_cons, List.not_mem_nil, or_false] at hs
    rcases hs with rfl | rfl | rfl | rfl
    · exact frame_Encode.sound n
    · exact law03_live.sound n
    · exact frame_Decode.sound n
    · exact law03_live.sound n
  · rintro ⟨a0, a1, a2, ⟨⟩⟩ y h
    exact (law03_FrameTurned.ok n a0 a1 a2).trans h
/-! backwater/backwaterref03.number -/
abbrev r03_number.ps : List (Ty × Bool) := [(.slB .U false (.int .u8), false)]
abbrev r03_number.r : Ty := .int .u32
abbrev r03_number.rs : List RV := [.t 2]
abbrev r03_number.R : Type := (rtOf r03_number.ps r03_number.r).den
noncomputable def r03_number.c (n : Nat) : XC :=
  (.seq (.reg (.op (.mv 2 (.c ⟨.int .u32, (0 : Int)⟩)) none <| .nil)) <|
  (.seq (.regD (.op (.mv 3 (.t 0)) (some ([0, 3], [3])) <| .op (.idxA 4 (.t 3) (.c ⟨.int .i64, (0 : Int)⟩) 1 0) (some ([3, 4], [4])) <| .op (.ld 5 4 1 false) (some ([4, 5], [5])) <| .op (.cvt 6 (.int .u32) (.t 5)) (some ([5, 6], [6])) <| .op (.mv 7 (.t 0)) (some ([0, 7], [7])) <| .op (.idxA 8 (.t 7) (.c ⟨.int .i64, (1 : Int)⟩) 1 0) (some ([7, 8], [8])) <| .op (.ld 9 8 1 false) (some ([8, 9], [9])) <| .op (.cvt 10 (.int .u32) (.t 9)) (some ([9, 10], [10])) <| .op (.bin 11 .shl (.t 10) (.c ⟨.int .u64, (8 : Int)⟩)) (some ([10, 11], [11])) <| .op (.bin 12 .add (.t 6) (.t 11)) (some ([6, 11, 12], [12])) <| .op (.mv 13 (.t 0)) (some ([0, 13], [13])) <| .op (.idxA 14 (.t 13) (.c ⟨.int .i64, (2 : Int)⟩) 1 0) (some ([13, 14], [14])) <| .op (.ld 15 14 1 false) (some ([14, 15], [15])) <| .op (.cvt 16 (.int .u32) (.t 15)) (some ([15, 16], [16])) <| .op (.bin 17 .shl (.t 16) (.c ⟨.int .u64, (16 : Int)⟩)) (some ([16, 17], [17])) <| .op (.bin 18 .add (.t 12) (.t 17)) (some ([12, 17, 18], [18])) <| .op (.mv 19 (.t 0)) (some ([0, 19], [19])) <| .op (.idxA 20 (.t 19) (.c ⟨.int .i64, (3 : Int)⟩) 1 0) (some ([19, 20], [20])) <| .op (.ld 21 20 1 false) (some ([20, 21], [21])) <| .op (.cvt 22 (.int .u32) (.t 21)) (some ([21, 22], [22])) <| .op (.bin 23 .shl (.t 22) (.c ⟨.int .u64, (24 : Int)⟩)) (some ([22, 23], [23])) <| .op (.bin 24 .add (.t 18) (.t 23)) (some ([18, 23, 24], [24])) <| .op (.mv 2 (.t 24)) (some ([2, 24], [2])) <| .nil)) <|
  .ret))
noncomputable def r03_number.f (n : Nat) (a0 : List Int) : Option Int :=
  idxK a0 (0 : Int) fun e1 => idxK a0 (1 : Int) fun e2 => geK (8 : Int) (idxK a0 (2 : Int) fun e3 => geK (16 : Int) (idxK a0 (3 : Int) fun e4 => geK (24 : Int) (some (IntKind.u32.wrap ((IntKind.u32.wrap ((IntKind.u32.wrap ((IntKind.u32.wrap e1) + (ishl IntKind.u32 (IntKind.u32.wrap e2) ((8 : Int)).toNat))) + (ishl IntKind.u32 (IntKind.u32.wrap e3) ((16 : Int)).toNat))) + (ishl IntKind.u32 (IntKind.u32.wrap e4) ((24 : Int)).toNat))))))
theorem r03_number.ok (n : Nat) (a0 : List Int) : evFn (r03_number.c n) r03_number.rs r03_number.ps r03_number.r (a0, ()) = r03_number.f n a0 := by kernel_rfl
noncomputable def r03_number.sp (n : Nat) : FSpec := { f := 30, ps := r03_number.ps, r := r03_number.r, run := fun x => r03_number.f n x.1 }
theorem r03_number.calls (n : Nat) : (r03_number.c n).calls = [] := by kernel_rfl
theorem r03_number.fits (n : Nat) : fnB tab hd Try.f30 (r03_number.c n) r03_number.rs (r03_number.sp n).ps (r03_number.sp n).r = true := by kernel_rfl
theorem r03_number.sound (n : Nat) : Sound Try.prog (r03_number.sp n) := by
  refine fnB_sound tabOk eqFacts mixed (fn := Try.f30) (c := r03_number.c n) (rs := r03_number.rs) (by kernel_rfl) ?_ (r03_number.fits n) ?_
  · rw [r03_number.calls]
    intro s hs; cases hs
  · rintro ⟨a0, ⟨⟩⟩ y h
    exact (r03_number.ok n a0).trans h
/-! backwater/backwaterref03.Cut -/
abbrev r03_Cut.ps : List (Ty × Bool) := [(.slB .U false (.int .u8), false)]
abbrev r03_Cut.r : Ty := .tup (.pair TPacket (.pair (.slX .U (.int .u8)) (.pair (.int .i64) .unit)))
abbrev r03_Cut.rs : List RV := [.c 2 6 true, .t 3, .t 4]
abbrev r03_Cut.R : Type := (rtOf r03_Cut.ps r03_Cut.r).den
noncomputable def r03_Cut.c (n : Nat) : XC :=
  (.seq (.reg (.op (.alloc 2 ⟨TPacket, ((0, 0, 0, 0, 0, ([] : List Int), ()) : DPacket)⟩) none <| .op (.mv 3 (.c ⟨.nil 0, ()⟩)) none <| .op (.mv 4 (.c ⟨.int .i64, (0 : Int)⟩)) none <| .nil)) <|
  (.seq (.seq (.reg (.op (.mv 9 (.t 0)) none <| .op (.len 10 (.t 9) false) none <| .op (.bin 11 .lss (.t 10) (.c ⟨.int .i64, (19 : Int)⟩)) none <| .nil)) <|
  (.cond (.t 11)
  (.seq (.reg (.op (.build 12 ⟨TPacket, ((0, 0, 0, 0, 0, ([] : List Int), ()) : DPacket)⟩ []) none <| .op (.st 2 (.t 12) 6) none <| .op (.mv 3 (.c ⟨.nil 0, ()⟩)) none <| .op (.mv 4 (.c ⟨.int .i64, (3 : Int)⟩)) none <| .nil)) <|
  .ret)
  .skip)) <|
  (.seq (.regD (.op (.mv 13 (.t 0)) (some ([0, 13], [13])) <| .op (.idxA 14 (.t 13) (.c ⟨.int .i64, (13 : Int)⟩) 1 0) (some ([13, 14], [14])) <| .op (.ld 15 14 1 false) (some ([14, 15], [15])) <| .op (.cvt 16 (.int .i64) (.t 15)) (some ([15, 16], [16])) <| .op (.mv 17 (.t 0)) (some ([0, 17], [17])) <| .op (.idxA 18 (.t 17) (.c ⟨.int .i64, (14 : Int)⟩) 1 0) (some ([17, 18], [18])) <| .op (.ld 19 18 1 false) (some ([18, 19], [19])) <| .op (.cvt 20 (.int .i64) (.t 19)) (some ([19, 20], [20])) <| .op (.bin 21 .mul (.t 20) (.c ⟨.int .i64, (256 : Int)⟩)) (some ([20, 21], [21])) <| .op (.bin 22 .add (.t 16) (.t 21)) (some ([16, 21, 22], [22])) <| .op (.mv 5 (.t 22)) (some ([5, 22], [5])) <| .nil)) <|
  (.seq (.seq (.pre [.keep [0, 2, 5]] (.reg (.op (.mv 23 (.t 0)) none <| .op (.len 24 (.t 23) false) none <| .op (.mv 25 (.t 5)) none <| .op (.bin 26 .add (.c ⟨.int .i64, (19 : Int)⟩) (.t 25)) none <| .op (.bin 27 .lss (.t 24) (.t 26)) none <| .nil))) <|
  (.cond (.t 27)
  (.seq (.reg (.op (.build 28 ⟨TPacket, ((0, 0, 0, 0, 0, ([] : List Int), ()) : DPacket)⟩ []) none <| .op (.st 2 (.t 28) 6) none <| .op (.mv 3 (.c ⟨.nil 0, ()⟩)) none <| .op (.mv 4 (.c ⟨.int .i64, (3 : Int)⟩)) none <| .nil)) <|
  .ret)
  .skip)) <|
  (.seq (.regD (.op (.mv 29 (.t 0)) (some ([0, 29], [29])) <| .op (.idxA 30 (.t 29) (.c ⟨.int .i64, (2 : Int)⟩) 1 0) (some ([29, 30], [30])) <| .op (.ld 31 30 1 false) (some ([30, 31], [31])) <| .op (.mv 32 (.t 0)) (some ([0, 32], [32])) <| .op (.idxA 33 (.t 32) (.c ⟨.int .i64, (3 : Int)⟩) 1 0) (some ([32, 33], [33])) <| .op (.ld 34 33 1 false) (some ([33, 34], [34])) <| .op (.mv 35 (.t 0)) (some ([0, 35], [35])) <| .op (.idxA 36 (.t 35) (.c ⟨.int .i64, (4 : Int)⟩) 1 0) (some ([35, 36], [36])) <| .op (.ld 37 36 1 false) (some ([36, 37], [37])) <| .op (.mv 38 (.t 0)) (some ([0, 38], [38])) <| .op (.slc 39 (.t 38) (some (.c ⟨.int .i64, (5 : Int)⟩)) (some (.c ⟨.int .i64, (9 : Int)⟩)) none 1) (some ([38, 39], [39])) <| .op (.call (some 40) (r03_number.sp n) [.v (.t 39)]) (some ([39, 40], [40])) <| .op (.mv 41 (.t 0)) (some ([0, 41], [41])) <| .op (.slc 42 (.t 41) (some (.c ⟨.int .i64, (9 : Int)⟩)) (some (.c ⟨.int .i64, (13 : Int)⟩)) none 1) (some ([41, 42], [42])) <| .op (.call (some 43) (r03_number.sp n) [.v (.t 42)]) (some ([42, 43], [43])) <| .op (.mv 44 (.t 0)) (some ([0, 44], [44])) <| .op (.mv 45 (.t 5)) (some ([5, 45], [45])) <| .op (.bin 46 .add (.c ⟨.int .i64, (15 : Int)⟩) (.t 45)) (some ([45, 46], [46])) <| .op (.slc 47 (.t 44) (some (.c ⟨.int .i64, (15 : Int)⟩)) (some (.t 46)) none 1) (some ([44, 46, 47], [47])) <| .op (.cvt 48 .b2s (.t 47)) (some ([47, 48], [48])) <| .op (.build 49 ⟨TPacket, ((0, 0, 0, 0, 0, ([] : List Int), ()) : DPacket)⟩ [(0, (.t 31), false), (1, (.t 34), false), (2, (.t 37), false), (3, (.t 40), false), (4, (.t 43), false), (5, (.t 48), false)]) (some ([31, 34, 37, 40, 43, 48, 49], [49])) <| .op (.alloc 6 ⟨TPacket, ((0, 0, 0, 0, 0, ([] : List Int), ()) : DPacket)⟩) (some ([6], [6])) <| .op (.st 6 (.t 49) 6) (some ([6, 49], [6])) <| .nil)) <|
  (.seq (.pre [.keep [0, 2, 5, 6]] (.reg (.op (.ld 51 6 6 true) none <| .op (.call (some 52) (r03_Encode.sp n) [.v (.t 51)]) none <| .op (.take 50 52) none <| .op (.ext 53 50 0) none <| .op (.ext 54 50 1) none <| .op (.take 7 53) none <| .op (.mv 8 (.t 54)) none <| .nil))) <|
  (.seq (.seq (.regD (.op (.mv 55 (.t 8)) (some ([8, 55], [55])) <| .op (.bin 56 .neq (.t 55) (.c ⟨.int .i64, (0 : Int)⟩)) (some ([55, 56], [56])) <| .op (.mv 57 (.t 56)) (some ([56, 57], [57])) <| .grp 57 false (.op (.bor 58 7) (some ([7, 57, 58], [58])) <| .op (.cvt 59 .b2s (.t 58)) (some ([7, 57, 58, 59], [59])) <| .op (.mv 60 (.t 0)) (some ([0, 57, 60], [60])) <| .op (.mv 61 (.t 5)) (some ([5, 57, 61], [61])) <| .op (.bin 62 .add (.c ⟨.int .i64, (19 : Int)⟩) (.t 61)) (some ([57, 61, 62], [62])) <| .op (.slc 63 (.t 60) none (some (.t 62)) none 1) (some ([57, 60, 62, 63], [63])) <| .op (.cvt 64 .b2s (.t 63)) (some ([57, 63, 64], [64])) <| .op (.bin 65 .neq (.t 59) (.t 64)) (some ([57, 59, 64, 65], [65])) <| .nil) 65 66 [58, 59, 60, 61, 62, 63, 64, 65] <| .nil)) <|
  (.cond (.t 66)
  (.seq (.pre [.keep [2]] (.reg (.op (.build 67 ⟨TPacket, ((0, 0, 0, 0, 0, ([] : List Int), ()) : DPacket)⟩ []) none <| .op (.st 2 (.t 67) 6) none <| .op (.mv 3 (.c ⟨.nil 0, ()⟩)) none <| .op (.mv 4 (.c ⟨.int .i64, (3 : Int)⟩)) none <| .nil))) <|
  .ret)
  .skip)) <|
  (.seq (.regD (.op (.ld 68 6 6 true) (some ([6, 68], [68])) <| .op (.bsl 69 (.int .u8) []) (some ([69], [69])) <| .op (.mv 70 (.t 0)) (some ([0, 70], [70])) <| .op (.mv 71 (.t 5)) (some ([5, 71], [71])) <| .op (.bin 72 .add (.c ⟨.int .i64, (19 : Int)⟩) (.t 71)) (some ([71, 72], [72])) <| .op (.slc 73 (.t 70) (some (.t 72)) none none 1) (some ([70, 72, 73], [73])) <| .op (.app 74 69 (.t 73) 1 1) (some ([69, 73, 74], [69, 74])) <| .op (.st 2 (.t 68) 6) (some ([2, 68], [2])) <| .op (.take 3 74) (some ([3, 74], [3, 74])) <| .op (.mv 4 (.c ⟨.int .i64, (0 : Int)⟩)) (some ([4], [4])) <| .nil)) <|
  .ret))))))))
noncomputable def r03_Cut.f (n : Nat) (a0 : List Int) : Option (DPacket × (List Int) × Int × Unit) :=
  bif (decide ((a0.length : Int) < (19 : Int))) then (some ((0, 0, 0, 0, 0, ([] : List Int), ()), ([] : List Int), 3, ()))
  else (idxK a0 (13 : Int) fun e1 => idxK a0 (14 : Int) fun e2 => bif (decide ((a0.length : Int) < (IntKind.i64.wrap ((19 : Int) + (IntKind.i64.wrap ((IntKind.i64.wrap e1) + (IntKind.i64.wrap ((IntKind.i64.wrap e2) * (256 : Int))))))))) then (some ((0, 0, 0, 0, 0, ([] : List Int), ()), ([] : List Int), 3, ()))
  else (idxK a0 (2 : Int) fun e3 => idxK a0 (3 : Int) fun e4 => idxK a0 (4 : Int) fun e5 => sliceK (5 : Int) (9 : Int) a0.length ((r03_number.f n (cut a0 (5 : Int) (9 : Int))).bind fun r6 => sliceK (9 : Int) (13 : Int) a0.length ((r03_number.f n (cut a0 (9 : Int) (13 : Int))).bind fun r7 => sliceK (15 : Int) (IntKind.i64.wrap ((15 : Int) + (IntKind.i64.wrap ((IntKind.i64.wrap e1) + (IntKind.i64.wrap ((IntKind.i64.wrap e2) * (256 : Int))))))) a0.length ((r03_Encode.f n (e3, e4, e5, r6, r7, (cut a0 (15 : Int) (IntKind.i64.wrap ((15 : Int) + (IntKind.i64.wrap ((IntKind.i64.wrap e1) + (IntKind.i64.wrap ((IntKind.i64.wrap e2) * (256 : Int)))))))), ())).bind fun r8 => (bif (!decide (r8.2.1 = (0 : Int))) then some true else (sliceK 0 (IntKind.i64.wrap ((19 : Int) + (IntKind.i64.wrap ((IntKind.i64.wrap e1) + (IntKind.i64.wrap ((IntKind.i64.wrap e2) * (256 : Int))))))) a0.length (some (!decide (r8.1 = (cut a0 0 (IntKind.i64.wrap ((19 : Int) + (IntKind.i64.wrap ((IntKind.i64.wrap e1) + (IntKind.i64.wrap ((IntKind.i64.wrap e2) * (256 : Int))))))))))))).bind fun g9 =>
  bif g9 then (some ((0, 0, 0, 0, 0, ([] : List Int), ()), ([] : List Int), 3, ()))
  else (sliceK (IntKind.i64.wrap ((19 : Int) + (IntKind.i64.wrap ((IntKind.i64.wrap e1) + (IntKind.i64.wrap ((IntKind.i64.wrap e2) * (256 : Int))))))) (a0.length : Int) a0.length (appK ([] : List Int).length (cut a0 (IntKind.i64.wrap ((19 : Int) + (IntKind.i64.wrap ((IntKind.i64.wrap e1) + (IntKind.i64.wrap ((IntKind.i64.wrap e2) * (256 : Int))))))) (a0.length : Int)).length 1 (some ((e3, e4, e5, r6, r7, (cut a0 (15 : Int) (IntKind.i64.wrap ((15 : Int) + (IntKind.i64.wrap ((IntKind.i64.wrap e1) + (IntKind.i64.wrap ((IntKind.i64.wrap e2) * (256 : Int)))))))), ()), (([] : List Int) ++ (cut a0 (IntKind.i64.wrap ((19 : Int) + (IntKind.i64.wrap ((IntKind.i64.wrap e1) + (IntKind.i64.wrap ((IntKind.i64.wrap e2) * (256 : Int))))))) (a0.length : Int))), 0, ())))))))))
theorem r03_Cut.ok (n : Nat) (a0 : List Int) : evFn (r03_Cut.c n) r03_Cut.rs r03_Cut.ps r03_Cut.r (a0, ()) = r03_Cut.f n a0 := by kernel_rfl
noncomputable def r03_Cut.sp (n : Nat) : FSpec := { f := 19, ps := r03_Cut.ps, r := r03_Cut.r, run := fun x => r03_Cut.f n x.1 }
theorem r03_Cut.calls (n : Nat) : (r03_Cut.c n).calls = [r03_number.sp n, r03_number.sp n, r03_Encode.sp n] := by kernel_rfl
theorem r03_Cut.fits (n : Nat) : fnB tab hd Try.f19 (r03_Cut.c n) r03_Cut.rs (r03_Cut.sp n).ps (r03_Cut.sp n).r = true := by kernel_rfl
theorem r03_Cut.sound (n : Nat) : Sound Try.prog (r03_Cut.sp n) := by
  refine fnB_sound tabOk eqFacts mixed (fn := Try.f19) (c := r03_Cut.c n) (rs := r03_Cut.rs) (by kernel_rfl) ?_ (r03_Cut.fits n) ?_
  · rw [r03_Cut.calls]
    intro s hs
    simp only [List.mem_cons, List.not_mem_nil, or_false] at hs
    rcases hs with rfl | rfl | rfl
    · exact r03_number.sound n
    · exact r03_number.sound n
    · exact r03_Encode.sound n
  · rintro ⟨a0, ⟨⟩⟩ y h
    exact (r03_Cut.ok n a0).trans h
/-! backwater/backwaterref03.Decode -/
abbrev r03_Decode.ps : List (Ty × Bool) := [(.slB .U false (.int .u8), false)]
abbrev r03_Decode.r : Ty := .tup (.pair TPacket (.pair (.int .i64) .unit))
abbrev r03_Decode.rs : List RV := [.c 2 6 true, .t 3]
abbrev r03_Decode.R : Type := (rtOf r03_Decode.ps r03_Decode.r).den
noncomputable def r03_Decode.c (n : Nat) : XC :=
  (.seq (.reg (.op (.alloc 2 ⟨TPacket, ((0, 0, 0, 0, 0, ([] : List Int), ()) : DPacket)⟩) none <| .op (.mv 3 (.c ⟨.int .i64, (0 : Int)⟩)) none <| .nil)) <|
  (.seq (.reg (.op (.mv 8 (.t 0)) none <| .op (.call (some 9) (r03_Cut.sp n) [.v (.t 8)]) none <| .op (.take 7 9) none <| .op (.ext 10 7 0) none <| .op (.ext 11 7 1) none <| .op (.ext 12 7 2) none <| .op (.alloc 4 ⟨TPacket, ((0, 0, 0, 0, 0, ([] : List Int), ()) : DPacket)⟩) none <| .op (.st 4 (.t 10) 6) none <| .op (.take 5 11) none <| .op (.mv 6 (.t 12)) none <| .nil)) <|
  (.seq (.seq (.reg (.op (.mv 13 (.t 6)) none <| .op (.bin 14 .neq (.t 13) (.c ⟨.int .i64, (0 : Int)⟩)) none <| .op (.mv 15 (.t 14)) none <| .grp 15 false (.op (.bor 16 5) (some ([5, 15, 16], [16])) <| .op (.len 17 (.t 16) false) (some ([5, 15, 16, 17], [17])) <| .op (.bin 18 .neq (.t 17) (.c ⟨.int .i64, (0 : Int)⟩)) (some ([15, 17, 18], [18])) <| .nil) 18 19 [16, 17, 18] <| .nil)) <|
  (.cond (.t 19)
  (.seq (.pre [.keep [2]] (.reg (.op (.build 20 ⟨TPacket, ((0, 0, 0, 0, 0, ([] : List Int), ()) : DPacket)⟩ []) none <| .op (.st 2 (.t 20) 6) none <| .op (.mv 3 (.c ⟨.int .i64, (3 : Int)⟩)) none <| .nil))) <|
  .ret)
  .skip)) <|
  (.seq (.pre [.keep [2, 4]] (.reg (.op (.ld 21 4 6 true) none <| .op (.st 2 (.t 21) 6) none <| .op (.mv 3 (.c ⟨.int .i64, (0 : Int)⟩)) none <| .nil))) <|
  .ret))))
noncomputable def r03_Decode.f (n : Nat) (a0 : List Int) : Option (DPacket × Int × Unit) :=
  (r03_Cut.f n a0).bind fun r1 => (bif (!decide (r1.2.2.1 = (0 : Int))) then some true else (some (!decide ((r1.2.1.length : Int) = (0 : Int))))).bind fun g2 =>
  bif g2 then (some ((0, 0, 0, 0, 0, ([] : List Int), ()), 3, ()))
  else (some ((r1.1.1, r1.1.2.1, r1.1.2.2.1, r1.1.2.2.2.1, r1.1.2.2.2.2.1, r1.1.2.2.2.2.2.1, r1.1.2.2.2.2.2.2), 0, ()))
theorem r03_Decode.ok (n : Nat) (a0 : List Int) : evFn (r03_Decode.c n) r03_Decode.rs r03_Decode.ps r03_Decode.r (a0, ()) = r03_Decode.f n a0 := by kernel_rfl
noncomputable def r03_Decode.sp (n : Nat) : FSpec := { f := 17, ps := r03_Decode.ps, r := r03_Decode.r, run := fun x => r03_Decode.f n x.1 }
theorem r03_Decode.calls (n : Nat) : (r03_Decode.c n).calls = [r03_Cut.sp n] := by kernel_rfl
theorem r03_Decode.fits (n : Nat) : fnB tab hd Try.f17 (r03_Decode.c n) r03_Decode.rs (r03_Decode.sp n).ps (r03_Decode.sp n).r = true := by kernel_rfl
theorem r03_Decode.sound (n : Nat) : Sound Try.prog (r03_Decode.sp n) := by
  refine fnB_sound tabOk eqFacts mixed (fn := Try.f17) (c := r03_Decode.c n) (rs := r03_Decode.rs) (by kernel_rfl) ?_ (r03_Decode.fits n) ?_
  · rw [r03_Decode.calls]
    intro s hs
    simp only [List.mem_cons, List.not_mem_nil, or_false] at hs
    rcases hs with rfl
    · exact r03_Cut.sound n
  · rintro ⟨a0, ⟨⟩⟩ y h
    exact (r03_Decode.ok n a0).trans h
/-! slices.Clone[[]byte,byte] -/
abbrev slices_Clone.ps : List (Ty × Bool) := [(.slB .U false (.int .u8), false)]
abbrev slices_Clone.r : Ty := .slX .U (.int .u8)
abbrev slices_Clone.rs : List RV := [.t 2]
abbrev slices_Clone.R : Type := (rtOf slices_Clone.ps slices_Clone.r).den
noncomputable def slices_Clone.c (n : Nat) : XC :=
  (.seq (.reg (.op (.mv 2 (.c ⟨.nil 0, ()⟩)) none <| .nil)) <|
  (.seq (.seq (.reg (.op (.mv 3 (.t 0)) none <| .op (.eqnil 4 (.t 3) false true) none <| .nil)) <|
  (.cond (.t 4)
  (.seq (.reg (.op (.mv 2 (.c ⟨.nil 0, ()⟩)) none <| .nil)) <|
  .ret)
  .skip)) <|
  (.seq (.reg (.op (.bsl 5 (.int .u8) []) none <| .op (.mv 6 (.t 0)) none <| .op (.app 7 5 (.t 6) 1 1) none <| .op (.take 2 7) none <| .nil)) <|
  .ret)))
noncomputable def slices_Clone.f (n : Nat) (a0 : List Int) : Option (List Int) :=
  bif (List.isEmpty a0) then both (some ([] : List Int)) (appK ([] : List Int).length a0.length 1 (some (([] : List Int) ++ a0))) else (appK ([] : List Int).length a0.length 1 (some (([] : List Int) ++ a0)))
theorem slices_Clone.ok (n : Nat) (a0 : List Int) : evFn (slices_Clone.c n) slices_Clone.rs slices_Clone.ps slices_Clone.r (a0, ()) = slices_Clone.f n a0 := by kernel_rfl
noncomputable def slices_Clone.sp (n : Nat) : FSpec := { f := 29, ps := slices_Clone.ps, r := slices_Clone.r, run := fun x => slices_Clone.f n x.1 }
theorem slices_Clone.calls (n : Nat) : (slices_Clone.c n).calls = [] := by kernel_rfl
theorem slices_Clone.fits (n : Nat) : fnB tab hd Try.f29 (slices_Clone.c n) slices_Clone.rs (slices_Clone.sp n).ps (slices_Clone.sp n).r = true := by kernel_rfl
theorem slices_Clone.sound (n : Nat) : Sound Try.prog (slices_Clone.sp n) := by
  refine fnB_sound tabOk eqFacts mixed (fn := Try.f29) (c := slices_Clone.c n) (rs := slices_Clone.rs) (by kernel_rfl) ?_ (slices_Clone.fits n) ?_
  · rw [slices_Clone.calls]
    intro s hs; cases hs
  · rintro ⟨a0, ⟨⟩⟩ y h
    exact (slices_Clone.ok n a0).trans h
/-! backwater/frame.Cut -/
abbrev frame_Cut.ps : List (Ty × Bool) := [(.slB .U false (.int .u8), false)]
abbrev frame_Cut.r : Ty := .tup (.pair TPacket (.pair (.slX .U (.int .u8)) (.pair (.int .i64) .unit)))
abbrev frame_Cut.rs : List RV := [.c 2 6 true, .t 3, .t 4]
abbrev frame_Cut.R : Type := (rtOf frame_Cut.ps frame_Cut.r).den
noncomputable def frame_Cut.c (n : Nat) : XC :=
  (.seq (.reg (.op (.alloc 2 ⟨TPacket, ((0, 0, 0, 0, 0, ([] : List Int), ()) : DPacket)⟩) none <| .op (.mv 3 (.c ⟨.nil 0, ()⟩)) none <| .op (.mv 4 (.c ⟨.int .i64, (0 : Int)⟩)) none <| .nil)) <|
  (.seq (.reg (.op (.mv 9 (.t 0)) none <| .op (.call (some 10) (frame_first.sp n) [.v (.t 9)]) none <| .op (.take 8 10) none <| .op (.ext 11 8 0) none <| .op (.ext 12 8 1) none <| .op (.ext 13 8 2) none <| .op (.alloc 5 ⟨TPacket, ((0, 0, 0, 0, 0, ([] : List Int), ()) : DPacket)⟩) none <| .op (.st 5 (.t 11) 6) none <| .op (.mv 6 (.t 12)) none <| .op (.mv 7 (.t 13)) none <| .nil)) <|
  (.seq (.seq (.reg (.op (.mv 14 (.t 7)) none <| .op (.un 15 .not (.t 14)) none <| .nil)) <|
  (.cond (.t 15)
  (.seq (.pre [.keep [2]] (.reg (.op (.build 16 ⟨TPacket, ((0, 0, 0, 0, 0, ([] : List Int), ()) : DPacket)⟩ []) none <| .op (.st 2 (.t 16) 6) none <| .op (.mv 3 (.c ⟨.nil 0, ()⟩)) none <| .op (.mv 4 (.c ⟨.int .i64, (3 : Int)⟩)) none <| .nil))) <|
  .ret)
  .skip)) <|
  (.seq (.regD (.op (.ld 17 5 6 true) (some ([5, 17], [17])) <| .op (.mv 18 (.t 0)) (some ([0, 18], [18])) <| .op (.mv 19 (.t 6)) (some ([6, 19], [19])) <| .op (.slc 20 (.t 18) (some (.t 19)) none none 1) (some ([18, 19, 20], [20])) <| .op (.call (some 21) (slices_Clone.sp n) [.v (.t 20)]) (some ([20, 21], [21])) <| .op (.st 2 (.t 17) 6) (some ([2, 17], [2])) <| .op (.take 3 21) (some ([3, 21], [3, 21])) <| .op (.mv 4 (.c ⟨.int .i64, (0 : Int)⟩)) (some ([4], [4])) <| .nil)) <|
  .ret))))
noncomputable def frame_Cut.f (n : Nat) (a0 : List Int) : Option (DPacket × (List Int) × Int × Unit) :=
  (frame_first.f n a0).bind fun r1 => bif (!r1.2.2.1) then (some ((0, 0, 0, 0, 0, ([] : List Int), ()), ([] : List Int), 3, ()))
  else (sliceK r1.2.1 (a0.length : Int) a0.length ((slices_Clone.f n (cut a0 r1.2.1 (a0.length : Int))).bind fun r2 => some ((r1.1.1, r1.1.2.1, r1.1.2.2.1, r1.1.2.2.2.1, r1.1.2.2.2.2.1, r1.1.2.2.2.2.2.1, r1.1.2.2.2.2.2.2), r2, 0, ())))
theorem frame_Cut.ok (n : Nat) (a0 : List Int) : evFn (frame_Cut.c n) frame_Cut.rs frame_Cut.ps frame_Cut.r (a0, ()) = frame_Cut.f n a0 := by kernel_rfl
noncomputable def frame_Cut.sp (n : Nat) : FSpec := { f := 18, ps := frame_Cut.ps, r := frame_Cut.r, run := fun x => frame_Cut.f n x.1 }
theorem frame_Cut.calls (n : Nat) : (frame_Cut.c n).calls = [frame_first.sp n, slices_Clone.sp n] := by kernel_rfl
theorem frame_Cut.fits (n : Nat) : fnB tab hd Try.f18 (frame_Cut.c n) frame_Cut.rs (frame_Cut.sp n).ps (frame_Cut.sp n).r = true := by kernel_rfl
theorem frame_Cut.sound (n : Nat) : Sound Try.prog (frame_Cut.sp n) := by
  refine fnB_sound tabOk eqFacts mixed (fn := Try.f18) (c := frame_Cut.c n) (rs := frame_Cut.rs) (by kernel_rfl) ?_ (frame_Cut.fits n) ?_
  · rw [frame_Cut.calls]
    intro s hs
    simp only [List.mem_cons, List.not_mem_nil, or_false] at hs
    rcases hs with rfl | rfl
    · exact frame_first.sound n
    · exact slices_Clone.sound n
  · rintro ⟨a0, ⟨⟩⟩ y h
    exact (frame_Cut.ok n a0).trans h
/-! backwater/backwaterlaw03.FrameReads -/
abbrev law03_FrameReads.ps : List (Ty × Bool) := [(.slB .U false (.int .u8), false)]
abbrev law03_FrameReads.r : Ty := .bool
abbrev law03_FrameReads.rs : List RV := [.t 2]
abbrev law03_FrameReads.R : Type := (rtOf law03_FrameReads.ps law03_FrameReads.r).den
noncomputable def law03_FrameReads.c (n : Nat) : XC :=
  (.seq (.reg (.op (.mv 2 (.c ⟨.bool, (false : Bool)⟩)) none <| .nil)) <|
  (.seq (.reg (.op (.bsl 14 (.int .u8) []) none <| .op (.mv 15 (.t 0)) none <| .op (.call (some 16) (law03_few.sp n) [.v (.t 15)]) none <| .op (.app 17 14 (.t 16) 1 1) none <| .op (.take 3 17) none <| .nil)) <|
  (.seq (.reg (.op (.bor 19 3) none <| .op (.call (some 20) (frame_Decode.sp n) [.v (.t 19)]) none <| .op (.take 18 20) none <| .op (.ext 21 18 0) none <| .op (.ext 22 18 1) none <| .op (.alloc 4 ⟨TPacket, ((0, 0, 0, 0, 0, ([] : List Int), ()) : DPacket)⟩) none <| .op (.st 4 (.t 21) 6) none <| .op (.mv 5 (.t 22)) none <| .nil)) <|
  (.seq (.reg (.op (.mv 24 (.t 0)) none <| .op (.call (some 25) (law03_few.sp n) [.v (.t 24)]) none <| .op (.call (some 26) (r03_Decode.sp n) [.v (.t 25)]) none <| .op (.take 23 26) none <| .op (.ext 27 23 0) none <| .op (.ext 28 23 1) none <| .op (.alloc 6 ⟨TPacket, ((0, 0, 0, 0, 0, ([] : List Int), ()) : DPacket)⟩) none <| .op (.st 6 (.t 27) 6) none <| .op (.mv 7 (.t 28)) none <| .nil)) <|
  (.seq (.pre [.keep [0, 3, 4, 5, 6, 7]] (.reg (.op (.bor 30 3) none <| .op (.call (some 31) (frame_Cut.sp n) [.v (.t 30)]) none <| .op (.take 29 31) none <| .op (.ext 32 29 0) none <| .op (.ext 33 29 1) none <| .op (.ext 34 29 2) none <| .op (.alloc 8 ⟨TPacket, ((0, 0, 0, 0, 0, ([] : List Int), ()) : DPacket)⟩) none <| .op (.st 8 (.t 32) 6) none <| .op (.take 9 33) none <| .op (.mv 10 (.t 34)) none <| .nil))) <|
  (.seq (.reg (.op (.mv 36 (.t 0)) none <| .op (.call (some 37) (law03_few.sp n) [.v (.t 36)]) none <| .op (.call (some 38) (r03_Cut.sp n) [.v (.t 37)]) none <| .op (.take 35 38) none <| .op (.ext 39 35 0) none <| .op (.ext 40 35 1) none <| .op (.ext 41 35 2) none <| .op (.alloc 11 ⟨TPacket, ((0, 0, 0, 0, 0, ([] : List Int), ()) : DPacket)⟩) none <| .op (.st 11 (.t 39) 6) none <| .op (.take 12 40) none <| .op (.mv 13 (.t 41)) none <| .nil)) <|
  (.seq (.pre [.keep [0, 3, 4, 5, 6, 7, 8, 9, 10, 11, 12, 13]] (.regD (.op (.call (some 42) (law03_live.sp n) []) (some ([42], [42])) <| .op (.mv 43 (.t 42)) (some ([42, 43], [43])) <| .grp 43 true (.op (.ld 44 4 6 true) (some ([4, 43, 44], [44])) <| .op (.ld 45 6 6 true) (some ([6, 43, 45], [45])) <| .op (.eqs 46 false (.t 44) (.t 45) TPacket) (some ([43, 44, 45, 46], [46])) <| .nil) 46 47 [44, 45, 46] <| .op (.mv 48 (.t 47)) (some ([47, 48], [48])) <| .grp 48 true (.op (.mv 49 (.t 5)) (some ([5, 48, 49], [49])) <| .op (.mv 50 (.t 7)) (some ([7, 48, 50], [50])) <| .op (.bin 51 .eql (.t 49) (.t 50)) (some ([48, 49, 50, 51], [51])) <| .nil) 51 52 [49, 50, 51] <| .op (.mv 53 (.t 52)) (some ([52, 53], [53])) <| .grp 53 true (.op (.ld 54 8 6 true) (some ([8, 53, 54], [54])) <| .op (.ld 55 11 6 true) (some ([11, 53, 55], [55])) <| .op (.eqs 56 false (.t 54) (.t 55) TPacket) (some ([53, 54, 55, 56], [56])) <| .nil) 56 57 [54, 55, 56] <| .op (.mv 58 (.t 57)) (some ([57, 58], [58])) <| .grp 58 true (.op (.bor 59 9) (some ([9, 58, 59], [59])) <| .op (.cvt 60 .b2s (.t 59)) (some ([9, 58, 59, 60], [60])) <| .op (.bor 61 12) (some ([12, 58, 61], [61])) <| .op (.cvt 62 .b2s (.t 61)) (some ([12, 58, 61, 62], [62])) <| .op (.bin 63 .eql (.t 60) (.t 62)) (some ([58, 60, 62, 63], [63])) <| .nil) 63 64 [59, 60, 61, 62, 63] <| .op (.mv 65 (.t 64)) (some ([64, 65], [65])) <| .grp 65 true (.op (.mv 66 (.t 10)) (some ([10, 65, 66], [66])) <| .op (.mv 67 (.t 13)) (some ([13, 65, 67], [67])) <| .op (.bin 68 .eql (.t 66) (.t 67)) (some ([65, 66, 67, 68], [68])) <| .nil) 68 69 [66, 67, 68] <| .op (.mv 70 (.t 69)) (some ([69, 70], [70])) <| .grp 70 true (.op (.bor 71 3) (some ([3, 70, 71], [71])) <| .op (.cvt 72 .b2s (.t 71)) (some ([3, 70, 71, 72], [72])) <| .op (.mv 73 (.t 0)) (some ([0, 70, 73], [73])) <| .op (.call (some 74) (law03_few.sp n) [.v (.t 73)]) (some ([70, 73, 74], [74])) <| .op (.cvt 75 .b2s (.t 74)) (some ([70, 74, 75], [75])) <| .op (.bin 76 .eql (.t 72) (.t 75)) (some ([70, 72, 75, 76], [76])) <| .nil) 76 77 [71, 72, 73, 74, 75, 76] <| .op (.mv 2 (.t 77)) (some ([2, 77], [2])) <| .nil))) <|
  .ret)))))))
noncomputable def law03_FrameReads.f (n : Nat) (a0 : List Int) : Option Bool :=
  (law03_few.f n a0).bind fun r1 => appK ([] : List Int).length r1.length 1 ((frame_Decode.f n (([] : List Int) ++ r1)).bind fun r2 => (law03_few.f n a0).bind fun r3 => (r03_Decode.f n r3).bind fun r4 => (frame_Cut.f n (([] : List Int) ++ r1)).bind fun r5 => (law03_few.f n a0).bind fun r6 => (r03_Cut.f n r6).bind fun r7 => (law03_live.f n).bind fun r8 => (bif r8 then (some ((eqI r2.1.1 r4.1.1 && (eqI r2.1.2.1 r4.1.2.1 && (eqI r2.1.2.2.1 r4.1.2.2.1 && (eqI r2.1.2.2.2.1 r4.1.2.2.2.1 && (eqI r2.1.2.2.2.2.1 r4.1.2.2.2.2.1 && (eqS r2.1.2.2.2.2.2.1 r4.1.2.2.2.2.2.1 && true)))))))) else some false).bind fun g9 =>
  (bif g9 then (some (decide (r2.2.1 = r4.2.1))) else some false).bind fun g10 =>
  (bif g10 then (some ((eqI r5.1.1 r7.1.1 && (eqI r5.1.2.1 r7.1.2.1 && (eqI r5.1.2.2.1 r7.1.2.2.1 && (eqI r5.1.2.2.2.1 r7.1.2.2.2.1 && (eqI r5.1.2.2.2.2.1 r7.1.2.2.2.2.1 && (eqS r5.1.2.2.2.2.2.1 r7.1.2.2.2.2.2.1 && true)))))))) else some false).bind fun g11 =>
  (bif g11 then (some (decide (r5.2.1 = r7.2.1))) else some false).bind fun g12 =>
  (bif g12 then (some (decide (r5.2.2.1 = r7.2.2.1))) else some false).bind fun g13 =>
  (bif g13 then ((law03_few.f n a0).bind fun r15 => some (decide ((([] : List Int) ++ r1) = r15))) else some false).bind fun g14 =>
  some g14)
theorem law03_FrameReads.ok (n : Nat) (a0 : List Int) : evFn (law03_FrameReads.c n) law03_FrameReads.rs law03_FrameReads.ps law03_FrameReads.r (a0, ()) = law03_FrameReads.f n a0 := by kernel_rfl
noncomputable def law03_FrameReads.sp (n : Nat) : FSpec := { f := 6, ps := law03_FrameReads.ps, r := law03_FrameReads.r, run := fun x => law03_FrameReads.f n x.1 }
theorem law03_FrameReads.calls (n : Nat) : (law03_FrameReads.c n).calls = [law03_few.sp n, frame_Decode.sp n, law03_few.sp n, r03_Decode.sp n, frame_Cut.sp n, law03_few.sp n, r03_Cut.sp n, law03_live.sp n, law03_few.sp n] := by kernel_rfl
theorem law03_FrameReads.fits (n : Nat) : fnB tab hd Try.f6 (law03_FrameReads.c n) law03_FrameReads.rs (law03_FrameReads.sp n).ps (law03_FrameReads.sp n).r = true := by kernel_rfl
theorem law03_FrameReads.sound (n : Nat) : Sound Try.prog (law03_FrameReads.sp n) := by
  refine fnB_sound tabOk eqFacts mixed (fn := Try.f6) (c := law03_FrameReads.c n) (rs := law03_FrameReads.rs) (by kernel_rfl) ?_ (law03_FrameReads.fits n) ?_
  · rw [law03_FrameReads.calls]
    intro s hs
    simp only [List.mem_cons, List.not_mem_nil, or_false] at hs
    rcases hs with rfl | rfl | rfl | rfl | rfl | rfl | rfl | rfl | rfl
    · exact law03_few.sound n
    · exact frame_Decode.sound n
    · exact law03_few.sound n
    · exact r03_Decode.sound n
    · exact frame_Cut.sound n
    · exact law03_few.sound n
    · exact r03_Cut.sound n
    · exact law03_live.sound n
    · exact law03_few.sound n
  · rintro ⟨a0, ⟨⟩⟩ y h
    exact (law03_FrameReads.ok n a0).trans h
/-! backwater/backwaterlaw03.FrameEnds -/
abbrev law03_FrameEnds.ps : List (Ty × Bool) := [(TPacket, false), (.int .u16, false), (.slB .U false (.int .u8), false)]
abbrev law03_FrameEnds.r : Ty := .bool
abbrev law03_FrameEnds.rs : List RV := [.t 6]
abbrev law03_FrameEnds.R : Type := (rtOf law03_FrameEnds.ps law03_FrameEnds.r).den
noncomputable def law03_FrameEnds.c (n : Nat) : XC :=
  (.seq (.reg (.op (.boxv 3 (.t 0)) none <| .op (.mv 6 (.c ⟨.bool, (false : Bool)⟩)) none <| .nil)) <|
  (.seq (.reg (.op (.ld 18 3 6 true) none <| .op (.call (some 19) (frame_Encode.sp n) [.v (.t 18)]) none <| .op (.take 17 19) none <| .op (.ext 20 17 0) none <| .op (.ext 21 17 1) none <| .op (.take 7 20) none <| .op (.mv 8 (.t 21)) none <| .nil)) <|
  (.seq (.seq (.reg (.op (.mv 22 (.t 8)) none <| .op (.bin 23 .neq (.t 22) (.c ⟨.int .i64, (0 : Int)⟩)) none <| .op (.mv 24 (.t 23)) none <| .grp 24 false (.op (.bor 25 7) (some ([7, 24, 25], [25])) <| .op (.len 26 (.t 25) false) (some ([7, 24, 25, 26], [26])) <| .op (.bin 27 .eql (.t 26) (.c ⟨.int .i64, (0 : Int)⟩)) (some ([24, 26, 27], [27])) <| .nil) 27 28 [25, 26, 27] <| .nil)) <|
  (.cond (.t 28)
  (.seq (.pre [.keep [8]] (.reg (.op (.call (some 29) (law03_live.sp n) []) none <| .op (.mv 30 (.t 29)) none <| .grp 30 true (.op (.mv 31 (.t 8)) (some ([8, 30, 31], [31])) <| .op (.bin 32 .eql (.t 31) (.c ⟨.int .i64, (3 : Int)⟩)) (some ([30, 31, 32], [32])) <| .nil) 32 33 [31, 32] <| .op (.mv 6 (.t 33)) none <| .nil))) <|
  .ret)
  .skip)) <|
  (.seq (.pre [.keep [1, 2, 3, 7]] (.reg (.op (.mv 34 (.t 2)) none <| .op (.call (some 35) (law03_few.sp n) [.v (.t 34)]) none <| .op (.mv 2 (.t 35)) none <| .nil))) <|
  (.seq (.reg (.op (.bor 37 7) none <| .op (.mv 38 (.t 1)) none <| .op (.cvt 39 (.int .i64) (.t 38)) none <| .op (.bor 40 7) none <| .op (.len 41 (.t 40) false) none <| .op (.bin 42 .rem (.t 39) (.t 41)) none <| .op (.slc 43 (.t 37) none (some (.t 42)) none 1) none <| .op (.call (some 44) (frame_Decode.sp n) [.v (.t 43)]) none <| .op (.take 36 44) none <| .op (.ext 45 36 0) none <| .op (.ext 46 36 1) none <| .op (.alloc 9 ⟨TPacket, ((0, 0, 0, 0, 0, ([] : List Int), ()) : DPacket)⟩) none <| .op (.st 9 (.t 45) 6) none <| .op (.mv 10 (.t 46)) none <| .nil)) <|
  (.seq (.pre [.keep [2, 3, 7, 10]] (.reg (.op (.bsl 47 (.int .u8) []) none <| .op (.bor 48 7) none <| .op (.app 49 47 (.t 48) 1 1) none <| .op (.mv 50 (.t 2)) none <| .op (.app 51 49 (.t 50) 1 1) none <| .op (.take 11 51) none <| .nil))) <|
  (.seq (.reg (.op (.bor 53 11) none <| .op (.call (some 54) (frame_Decode.sp n) [.v (.t 53)]) none <| .op (.take 52 54) none <| .op (.ext 55 52 0) none <| .op (.ext 56 52 1) none <| .op (.alloc 12 ⟨TPacket, ((0, 0, 0, 0, 0, ([] : List Int), ()) : DPacket)⟩) none <| .op (.st 12 (.t 55) 6) none <| .op (.mv 13 (.t 56)) none <| .nil)) <|
  (.seq (.reg (.op (.bor 58 11) none <| .op (.call (some 59) (frame_Cut.sp n) [.v (.t 58)]) none <| .op (.take 57 59) none <| .op (.ext 60 57 0) none <| .op (.ext 61 57 1) none <| .op (.ext 62 57 2) none <| .op (.alloc 14 ⟨TPacket, ((0, 0, 0, 0, 0, ([] : List Int), ()) : DPacket)⟩) none <| .op (.st 14 (.t 60) 6) none <| .op (.take 15 61) none <| .op (.mv 16 (.t 62)) none <| .nil)) <|
  (.seq (.pre [.keep [2, 3, 10, 13, 14, 15, 16]] (.reg (.op (.call (some 63) (law03_live.sp n) []) none <| .op (.mv 64 (.t 63)) none <| .grp 64 true (.op (.mv 65 (.t 10)) (some ([10, 64, 65], [65])) <| .op (.bin 66 .eql (.t 65) (.c ⟨.int .i64, (3 : Int)⟩)) (some ([64, 65, 66], [66])) <| .nil) 66 67 [65, 66] <| .op (.mv 68 (.t 67)) none <| .grp 68 true (.op (.mv 69 (.t 13)) (some ([13, 68, 69], [69])) <| .op (.bin 70 .eql (.t 69) (.c ⟨.int .i64, (0 : Int)⟩)) (some ([68, 69, 70], [70])) <| .op (.mv 71 (.t 2)) (some ([2, 68, 71], [71])) <| .op (.len 72 (.t 71) false) (some ([68, 71, 72], [72])) <| .op (.bin 73 .eql (.t 72) (.c ⟨.int .i64, (0 : Int)⟩)) (some ([68, 72, 73], [73])) <| .op (.eqs 74 false (.t 70) (.t 73) .bool) (some ([68, 70, 73, 74], [74])) <| .nil) 74 75 [69, 70, 71, 72, 73, 74] <| .op (.mv 76 (.t 75)) none <| .grp 76 true (.op (.mv 77 (.t 16)) (some ([16, 76, 77], [77])) <| .op (.bin 78 .eql (.t 77) (.c ⟨.int .i64, (0 : Int)⟩)) (some ([76, 77, 78], [78])) <| .nil) 78 79 [77, 78] <| .op (.mv 80 (.t 79)) none <| .grp 80 true (.op (.ld 81 14 6 true) (some ([14, 80, 81], [81])) <| .op (.ld 82 3 6 true) (some ([3, 80, 82], [82])) <| .op (.eqs 83 false (.t 81) (.t 82) TPacket) (some ([80, 81, 82, 83], [83])) <| .nil) 83 84 [81, 82, 83] <| .op (.mv 85 (.t 84)) none <| .grp 85 true (.op (.bor 86 15) (some ([15, 85, 86], [86])) <| .op (.cvt 87 .b2s (.t 86)) (some ([15, 85, 86, 87], [87])) <| .op (.mv 88 (.t 2)) (some ([2, 85, 88], [88])) <| .op (.cvt 89 .b2s (.t 88)) (some ([85, 88, 89], [89])) <| .op (.bin 90 .eql (.t 87) (.t 89)) (some ([85, 87, 89, 90], [90])) <| .nil) 90 91 [86, 87, 88, 89, 90] <| .op (.mv 6 (.t 91)) none <| .nil))) <|
  .ret)))))))))
noncomputable def law03_FrameEnds.f (n : Nat) (a0 : DPacket) (a1 : Int) (a2 : List Int) : Option Bool :=
  (frame_Encode.f n (a0.1, a0.2.1, a0.2.2.1, a0.2.2.2.1, a0.2.2.2.2.1, a0.2.2.2.2.2.1, a0.2.2.2.2.2.2)).bind fun r1 => (bif (!decide (r1.2.1 = (0 : Int))) then some true else (some (decide ((r1.1.length : Int) = (0 : Int))))).bind fun g2 =>
  bif g2 then ((law03_live.f n).bind fun r3 => (bif r3 then (some (decide (r1.2.1 = (3 : Int)))) else some false).bind fun g4 =>
  some g4)
  else ((law03_few.f n a2).bind fun r5 => nzK (r1.1.length : Int) (sliceK 0 (Int.tmod (IntKind.i64.wrap a1) (r1.1.length : Int)) r1.1.length ((frame_Decode.f n (cut r1.1 0 (Int.tmod (IntKind.i64.wrap a1) (r1.1.length : Int)))).bind fun r6 => appK ([] : List Int).length r1.1.length 1 (appK (([] : List Int) ++ r1.1).length r5.length 1 ((frame_Decode.f n ((([] : List Int) ++ r1.1) ++ r5)).bind fun r7 => (frame_Cut.f n ((([] : List Int) ++ r1.1) ++ r5)).bind fun r8 => (law03_live.f n).bind fun r9 => (bif r9 then (some (decide (r6.2.1 = (3 : Int)))) else some false).bind fun g10 =>
  (bif g10 then (some (bbeq (decide (r7.2.1 = (0 : Int))) (decide ((r5.length : Int) = (0 : Int))))) else some false).bind fun g11 =>
  (bif g11 then (some (decide (r8.2.2.1 = (0 : Int)))) else some false).bind fun g12 =>
  (bif g12 then (some ((eqI r8.1.1 a0.1 && (eqI r8.1.2.1 a0.2.1 && (eqI r8.1.2.2.1 a0.2.2.1 && (eqI r8.1.2.2.2.1 a0.2.2.2.1 && (eqI r8.1.2.2.2.2.1 a0.2.2.2.2.1 && (eqS r8.1.2.2.2.2.2.1 a0.2.2.2.2.2.1 && true)))))))) else some false).bind fun g13 =>
  (bif g13 then (some (decide (r8.2.1 = r5))) else some false).bind fun g14 =>
  some g14)))))
theorem law03_FrameEnds.ok (n : Nat) (a0 : DPacket) (a1 : Int) (a2 : List Int) : evFn (law03_FrameEnds.c n) law03_FrameEnds.rs law03_FrameEnds.ps law03_FrameEnds.r (a0, a1, a2, ()) = law03_FrameEnds.f n a0 a1 a2 := by kernel_rfl
noncomputable def law03_FrameEnds.sp (n : Nat) : FSpec := { f := 7, ps := law03_FrameEnds.ps, r := law03_FrameEnds.r, run := fun x => law03_FrameEnds.f n x.1 x.2.1 x.2.2.1 }
theorem law03_FrameEnds.calls (n : Nat) : (law03_FrameEnds.c n).calls = [frame_Encode.sp n, law03_live.sp n, law03_few.sp n, frame_Decode.sp n, frame_Decode.sp n, frame_Cut.sp n, law03_live.sp n] := by kernel_rfl
theorem law03_FrameEnds.fits (n : Nat) : fnB tab hd Try.f7 (law03_FrameEnds.c n) law03_FrameEnds.rs (law03_FrameEnds.sp n).ps (law03_FrameEnds.sp n).r = true := by kernel_rfl
theorem law03_FrameEnds.sound (n : Nat) : Sound Try.prog (law03_FrameEnds.sp n) := by
  refine fnB_sound tabOk eqFacts mixed (fn := Try.f7) (c := law03_FrameEnds.c n) (rs := law03_FrameEnds.rs) (by kernel_rfl) ?_ (law03_FrameEnds.fits n) ?_
  · rw [law03_FrameEnds.calls]
    intro s hs
    simp only [List.mem_cons, List.not_mem_nil, or_false] at hs
    rcases hs with rfl | rfl | rfl | rfl | rfl | rfl | rfl
    · exact frame_Encode.sound n
    · exact law03_live.sound n
    · exact law03_few.sound n
    · exact frame_Decode.sound n
    · exact frame_Decode.sound n
    · exact frame_Cut.sound n
    · exact law03_live.sound n
  · rintro ⟨a0, a1, a2, ⟨⟩⟩ y h
    exact (law03_FrameEnds.ok n a0 a1 a2).trans h
end Go.Proofs.Ytmglcaonmbpciaa.S
