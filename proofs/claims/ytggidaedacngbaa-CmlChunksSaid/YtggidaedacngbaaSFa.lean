/- The functions of the seat: annotated code, shallow functions, and that each keeps its contract. Printed by pr.py. -/
import Derived.Test.YtggidaedacngbaaSTab
namespace Go.Proofs.Ytggidaedacngbaa.S
open Go Go.Proofs Go.Proofs.Bw
set_option maxRecDepth 100000
set_option linter.unusedVariables false
abbrev TboundsError : Ty := .pair (.int .i64) (.pair (.int .i64) (.pair .bool (.pair (.int .u8) .unit)))
abbrev DboundsError : Type := Int × Int × Bool × Int × Unit
abbrev TerrorAddressString : Ty := .pair .str (.pair (.int .u64) .unit)
abbrev DerrorAddressString : Type := (List Int) × Int × Unit
abbrev TOp : Ty := .pair (.int .u8) (.pair (.int .u32) (.pair (.int .u32) (.pair .str (.pair (.int .u32) (.pair .str (.pair (.int .u16) (.pair .str .unit)))))))
abbrev DOp : Type := Int × Int × Int × (List Int) × Int × (List Int) × Int × (List Int) × Unit
abbrev TRecord : Ty := .pair TOp (.pair (.int .u64) .unit)
abbrev DRecord : Type := DOp × Int × Unit
abbrev Tcontent : Ty := .pair (.int .u8) (.pair (.int .u32) .unit)
abbrev Dcontent : Type := Int × Int × Unit
abbrev TNode : Ty := .pair (.int .u32) (.pair (.int .u8) (.pair (.int .u16) (.pair (.int .u16) (.pair (.slB .U false (.int .u8)) (.pair (.slB .U false (.pair .str (.pair (.int .u32) .unit))) .unit)))))
abbrev DNode : Type := Int × Int × Int × Int × (List Int) × (List ((List Int) × Int × Unit)) × Unit
abbrev TNodeX : Ty := .pair (.int .u32) (.pair (.int .u8) (.pair (.int .u16) (.pair (.int .u16) (.pair (.slX .U (.int .u8)) (.pair (.slX .U (.pair .str (.pair (.int .u32) .unit))) .unit)))))
abbrev TKid : Ty := .pair .str (.pair (.int .u32) .unit)
abbrev DKid : Type := (List Int) × Int × Unit
def mapSet1 (x : Dcontent) (z : Int) (l : List (Dcontent × Int)) : List (Dcontent × Int) := mapSet (β := Ty.den (.int .i64)) Tcontent x z l
def mapGet1 (x : Dcontent) (l : List (Dcontent × Int)) : Option Int := mapGet (β := Ty.den (.int .i64)) Tcontent x l
/-! backwater/backwaterlaw08.few -/
abbrev law08_few.ps : List (Ty × Bool) := [(.slB .U false TRecord, false)]
abbrev law08_few.r : Ty := .slB .U false TRecord
abbrev law08_few.rs : List RV := [.t 2]
abbrev law08_few.R : Type := (rtOf law08_few.ps law08_few.r).den
noncomputable def law08_few.d (n : Nat) : XC :=
  (.seq (.reg (.op (.mv 2 (.c ⟨.nil 0, ()⟩)) none <| .nil)) <|
  (.seq (.seq (.reg (.op (.mv 3 (.t 0)) none <| .op (.len 4 (.t 3) false) none <| .op (.bin 5 .gtr (.t 4) (.c ⟨.int .i64, ((40 : Int) : Int)⟩)) none <| .nil)) <|
  (.cond (.t 5)
  (.seq (.reg (.op (.mv 6 (.t 0)) none <| .op (.slc 7 (.t 6) none (some (.c ⟨.int .i64, ((40 : Int) : Int)⟩)) none 9) none <| .op (.mv 2 (.t 7)) none <| .nil)) <|
  .ret)
  .skip)) <|
  (.seq (.reg (.op (.mv 8 (.t 0)) none <| .op (.mv 2 (.t 8)) none <| .nil)) <|
  .ret)))
noncomputable abbrev law08_few.c (n : Nat) : XC := law08_few.d n
noncomputable def law08_few.f (n : Nat) (a0 : List DRecord) : Option (List DRecord) :=
  bif (decide ((40 : Int) < (a0.length : Int))) then (sliceK 0 (40 : Int) a0.length (some (cut a0 0 (40 : Int))))
  else (some a0)
theorem law08_few.ok (n : Nat) (a0 : List DRecord) : evFn (law08_few.c n) law08_few.rs law08_few.ps law08_few.r (a0, ()) = law08_few.f n a0 := by kernel_rfl
noncomputable def law08_few.sp (n : Nat) : FSpec := { f := 10, ps := law08_few.ps, r := law08_few.r, run := fun x => law08_few.f n x.1 }
theorem law08_few.calls (n : Nat) : (law08_few.c n).calls = [] := by kernel_rfl
theorem law08_few.fits (n : Nat) : fnB tab hd Try.f10 (law08_few.c n) law08_few.rs (law08_few.sp n).ps (law08_few.sp n).r = true := by kernel_rfl
theorem law08_few.sound (n : Nat) : Sound Try.prog (law08_few.sp n) := by
  refine fnB_sound tabOk eqFacts mixed (fn := Try.f10) (c := law08_few.c n) (rs := law08_few.rs) (by kernel_rfl) ?_ (law08_few.fits n) ?_
  · rw [law08_few.calls]
    intro s hs; cases hs
  · rintro ⟨a0, ⟨⟩⟩ y h
    exact (law08_few.ok n a0).trans h
theorem law08_few.meets (n : Nat) : Meets Try.prog (law08_few.sp n) := (law08_few.sound n).meets
/-! slices.Clone[[]backwater/api.Record,backwater/api.Record] -/
abbrev slices_Clone.ps : List (Ty × Bool) := [(.slB .U false TRecord, false)]
abbrev slices_Clone.r : Ty := .slX .U TRecord
abbrev slices_Clone.rs : List RV := [.t 2]
abbrev slices_Clone.R : Type := (rtOf slices_Clone.ps slices_Clone.r).den
noncomputable def slices_Clone.d (n : Nat) : XC :=
  (.seq (.reg (.op (.mv 2 (.c ⟨.nil 0, ()⟩)) none <| .nil)) <|
  (.seq (.seq (.reg (.op (.mv 3 (.t 0)) none <| .op (.eqnil 4 (.t 3) false true) none <| .nil)) <|
  (.cond (.t 4)
  (.seq (.reg (.op (.mv 2 (.c ⟨.nil 0, ()⟩)) none <| .nil)) <|
  .ret)
  .skip)) <|
  (.seq (.reg (.op (.bsl 5 TRecord []) none <| .op (.mv 6 (.t 0)) none <| .op (.app 7 5 (.t 6) 88 9) none <| .op (.take 2 7) none <| .nil)) <|
  .ret)))
noncomputable abbrev slices_Clone.c (n : Nat) : XC := slices_Clone.d n
noncomputable def slices_Clone.f (n : Nat) (a0 : List DRecord) : Option (List DRecord) :=
  bif (List.isEmpty a0) then both (some ([] : List DRecord)) (appK ([] : List DRecord).length a0.length 88 (some (([] : List DRecord) ++ a0))) else (appK ([] : List DRecord).length a0.length 88 (some (([] : List DRecord) ++ a0)))
theorem slices_Clone.ok (n : Nat) (a0 : List DRecord) : evFn (slices_Clone.c n) slices_Clone.rs slices_Clone.ps slices_Clone.r (a0, ()) = slices_Clone.f n a0 := by kernel_rfl
noncomputable def slices_Clone.sp (n : Nat) : FSpec := { f := 32, ps := slices_Clone.ps, r := slices_Clone.r, run := fun x => slices_Clone.f n x.1 }
theorem slices_Clone.calls (n : Nat) : (slices_Clone.c n).calls = [] := by kernel_rfl
theorem slices_Clone.fits (n : Nat) : fnB tab hd Try.f32 (slices_Clone.c n) slices_Clone.rs (slices_Clone.sp n).ps (slices_Clone.sp n).r = true := by kernel_rfl
theorem slices_Clone.sound (n : Nat) : Sound Try.prog (slices_Clone.sp n) := by
  refine fnB_sound tabOk eqFacts mixed (fn := Try.f32) (c := slices_Clone.c n) (rs := slices_Clone.rs) (by kernel_rfl) ?_ (slices_Clone.fits n) ?_
  · rw [slices_Clone.calls]
    intro s hs; cases hs
  · rintro ⟨a0, ⟨⟩⟩ y h
    exact (slices_Clone.ok n a0).trans h
theorem slices_Clone.meets (n : Nat) : Meets Try.prog (slices_Clone.sp n) := (slices_Clone.sound n).meets
/-! backwater/cml.Cut -/
abbrev cml_Cut.ps : List (Ty × Bool) := [(.slB .U false TRecord, false), (.int .i64, false)]
abbrev cml_Cut.r : Ty := .slX .U TRecord
abbrev cml_Cut.rs : List RV := [.t 4]
abbrev cml_Cut.R : Type := (rtOf cml_Cut.ps cml_Cut.r).den
noncomputable def cml_Cut.d (n : Nat) : XC :=
  (.seq (.reg (.op (.mv 4 (.c ⟨.nil 0, ()⟩)) none <| .nil)) <|
  (.seq (.reg (.op (.mv 5 (.t 0)) none <| .op (.mv 6 (.t 1)) none <| .op (.mnx 7 true (.t 6) (.c ⟨.int .i64, ((0 : Int) : Int)⟩)) none <| .op (.mv 8 (.t 0)) none <| .op (.len 9 (.t 8) false) none <| .op (.mnx 10 false (.t 7) (.t 9)) none <| .op (.slc 11 (.t 5) none (some (.t 10)) none 9) none <| .op (.call (some 12) (slices_Clone.sp n) [.v (.t 11)]) none <| .op (.take 4 12) none <| .nil)) <|
  .ret))
noncomputable abbrev cml_Cut.c (n : Nat) : XC := cml_Cut.d n
noncomputable def cml_Cut.f (n : Nat) (a0 : List DRecord) (a1 : Int) : Option (List DRecord) :=
  sliceK 0 (imin (imax a1 (0 : Int)) (a0.length : Int)) a0.length ((slices_Clone.f n (cut a0 0 (imin (imax a1 (0 : Int)) (a0.length : Int)))).bind fun r1 => some r1)
theorem cml_Cut.ok (n : Nat) (a0 : List DRecord) (a1 : Int) : evFn (cml_Cut.c n) cml_Cut.rs cml_Cut.ps cml_Cut.r (a0, a1, ()) = cml_Cut.f n a0 a1 := by kernel_rfl
noncomputable def cml_Cut.sp (n : Nat) : FSpec := { f := 17, ps := cml_Cut.ps, r := cml_Cut.r, run := fun x => cml_Cut.f n x.1 x.2.1 }
theorem cml_Cut.calls (n : Nat) : (cml_Cut.c n).calls = [slices_Clone.sp n] := by kernel_rfl
theorem cml_Cut.fits (n : Nat) : fnB tab hd Try.f17 (cml_Cut.c n) cml_Cut.rs (cml_Cut.sp n).ps (cml_Cut.sp n).r = true := by kernel_rfl
theorem cml_Cut.sound (n : Nat) : Sound Try.prog (cml_Cut.sp n) := by
  refine fnB_sound tabOk eqFacts mixed (fn := Try.f17) (c := cml_Cut.c n) (rs := cml_Cut.rs) (by kernel_rfl) ?_ (cml_Cut.fits n) ?_
  · rw [cml_Cut.calls]
    intro s hs
    simp only [List.mem_cons, List.not_mem_nil, or_false] at hs
    rcases hs with rfl
    · exact slices_Clone.meets n
  · rintro ⟨a0, a1, ⟨⟩⟩ y h
    exact (cml_Cut.ok n a0 a1).trans h
theorem cml_Cut.meets (n : Nat) : Meets Try.prog (cml_Cut.sp n) := (cml_Cut.sound n).meets
/-! backwater/cml.Drop -/
abbrev cml_Drop.ps : List (Ty × Bool) := [(.slB .U false TRecord, false), (.int .i64, false)]
abbrev cml_Drop.r : Ty := .slX .U TRecord
abbrev cml_Drop.rs : List RV := [.t 4]
abbrev cml_Drop.R : Type := (rtOf cml_Drop.ps cml_Drop.r).den
noncomputable def cml_Drop.d (n : Nat) : XC :=
  (.seq (.reg (.op (.mv 4 (.c ⟨.nil 0, ()⟩)) none <| .nil)) <|
  (.seq (.reg (.op (.mv 5 (.t 0)) none <| .op (.mv 6 (.t 1)) none <| .op (.mnx 7 true (.t 6) (.c ⟨.int .i64, ((0 : Int) : Int)⟩)) none <| .op (.mv 8 (.t 0)) none <| .op (.len 9 (.t 8) false) none <| .op (.mnx 10 false (.t 7) (.t 9)) none <| .op (.slc 11 (.t 5) (some (.t 10)) none none 9) none <| .op (.call (some 12) (slices_Clone.sp n) [.v (.t 11)]) none <| .op (.take 4 12) none <| .nil)) <|
  .ret))
noncomputable abbrev cml_Drop.c (n : Nat) : XC := cml_Drop.d n
noncomputable def cml_Drop.f (n : Nat) (a0 : List DRecord) (a1 : Int) : Option (List DRecord) :=
  sliceK (imin (imax a1 (0 : Int)) (a0.length : Int)) (a0.length : Int) a0.length ((slices_Clone.f n (cut a0 (imin (imax a1 (0 : Int)) (a0.length : Int)) (a0.length : Int))).bind fun r1 => some r1)
theorem cml_Drop.ok (n : Nat) (a0 : List DRecord) (a1 : Int) : evFn (cml_Drop.c n) cml_Drop.rs cml_Drop.ps cml_Drop.r (a0, a1, ()) = cml_Drop.f n a0 a1 := by kernel_rfl
noncomputable def cml_Drop.sp (n : Nat) : FSpec := { f := 18, ps := cml_Drop.ps, r := cml_Drop.r, run := fun x => cml_Drop.f n x.1 x.2.1 }
theorem cml_Drop.calls (n : Nat) : (cml_Drop.c n).calls = [slices_Clone.sp n] := by kernel_rfl
theorem cml_Drop.fits (n : Nat) : fnB tab hd Try.f18 (cml_Drop.c n) cml_Drop.rs (cml_Drop.sp n).ps (cml_Drop.sp n).r = true := by kernel_rfl
theorem cml_Drop.sound (n : Nat) : Sound Try.prog (cml_Drop.sp n) := by
  refine fnB_sound tabOk eqFacts mixed (fn := Try.f18) (c := cml_Drop.c n) (rs := cml_Drop.rs) (by kernel_rfl) ?_ (cml_Drop.fits n) ?_
  · rw [cml_Drop.calls]
    intro s hs
    simp only [List.mem_cons, List.not_mem_nil, or_false] at hs
    rcases hs with rfl
    · exact slices_Clone.meets n
  · rintro ⟨a0, a1, ⟨⟩⟩ y h
    exact (cml_Drop.ok n a0 a1).trans h
theorem cml_Drop.meets (n : Nat) : Meets Try.prog (cml_Drop.sp n) := (cml_Drop.sound n).meets
/-! backwater/cml.of -/
abbrev cml_of.ps : List (Ty × Bool) := [(TRecord, false)]
abbrev cml_of.r : Ty := .tup (.pair Tcontent (.pair .bool .unit))
abbrev cml_of.rs : List RV := [.c 2 2 true, .t 3]
abbrev cml_of.R : Type := (rtOf cml_of.ps cml_of.r).den
noncomputable def cml_of.d (n : Nat) : XC :=
  (.seq (.reg (.op (.boxv 1 (.t 0)) none <| .op (.alloc 2 ⟨Tcontent, (((0 : Int), (0 : Int), ()) : Dcontent)⟩) none <| .op (.mv 3 (.c ⟨.bool, (false : Bool)⟩)) none <| .nil)) <|
  (.seq (.reg (.op (.fa 5 1 0 0) none <| .op (.fa 6 5 0 0) none <| .op (.ld 7 6 1 false) none <| .op (.mv 4 (.t 7)) none <| .nil)) <|
  (.seq (.reg (.op (.mv 8 (.t 4)) none <| .op (.fa 9 1 0 0) none <| .op (.fa 10 9 1 1) none <| .op (.ld 11 10 1 false) none <| .op (.build 12 ⟨Tcontent, (((0 : Int), (0 : Int), ()) : Dcontent)⟩ [(0, (.t 8), false), (1, (.t 11), false)]) none <| .op (.mv 13 (.t 4)) none <| .op (.bin 14 .eql (.t 13) (.c ⟨.int .u8, ((8 : Int) : Int)⟩)) none <| .op (.mv 15 (.t 14)) none <| .grp 15 false (.op (.mv 16 (.t 4)) (some ([4, 15, 16], [16])) <| .op (.bin 17 .eql (.t 16) (.c ⟨.int .u8, ((9 : Int) : Int)⟩)) (some ([15, 16, 17], [17])) <| .nil) 17 18 [16, 17] <| .op (.st 2 (.t 12) 2) none <| .op (.mv 3 (.t 18)) none <| .nil)) <|
  .ret)))
noncomputable abbrev cml_of.c (n : Nat) : XC := cml_of.d n
noncomputable def cml_of.f (n : Nat) (a0 : DRecord) : Option (Dcontent × Bool × Unit) :=
  (bif (decide (a0.1.1 = (8 : Int))) then some true else (some (decide (a0.1.1 = (9 : Int))))).bind fun g1 =>
  some ((a0.1.1, a0.1.2.1, ()), g1, ())
theorem cml_of.ok (n : Nat) (a0 : DRecord) : evFn (cml_of.c n) cml_of.rs cml_of.ps cml_of.r (a0, ()) = cml_of.f n a0 := by kernel_rfl
noncomputable def cml_of.sp (n : Nat) : FSpec := { f := 29, ps := cml_of.ps, r := cml_of.r, run := fun x => cml_of.f n x.1 }
theorem cml_of.calls (n : Nat) : (cml_of.c n).calls = [] := by kernel_rfl
theorem cml_of.fits (n : Nat) : fnB tab hd Try.f29 (cml_of.c n) cml_of.rs (cml_of.sp n).ps (cml_of.sp n).r = true := by kernel_rfl
theorem cml_of.sound (n : Nat) : Sound Try.prog (cml_of.sp n) := by
  refine fnB_sound tabOk eqFacts mixed (fn := Try.f29) (c := cml_of.c n) (rs := cml_of.rs) (by kernel_rfl) ?_ (cml_of.fits n) ?_
  · rw [cml_of.calls]
    intro s hs; cases hs
  · rintro ⟨a0, ⟨⟩⟩ y h
    exact (cml_of.ok n a0).trans h
theorem cml_of.meets (n : Nat) : Meets Try.prog (cml_of.sp n) := (cml_of.sound n).meets
/-! backwater/cml.undo -/
abbrev cml_undo.ps : List (Ty × Bool) := [(.int .u8, false)]
abbrev cml_undo.r : Ty := .int .u8
abbrev cml_undo.rs : List RV := [.t 2]
abbrev cml_undo.R : Type := (rtOf cml_undo.ps cml_undo.r).den
noncomputable def cml_undo.d1 (n : Nat) : XC :=
  (.seq (.reg (.op (.mv 2 (.c ⟨.int .u8, ((0 : Int) : Int)⟩)) none <| .nil)) <|
  .ret)
noncomputable abbrev cml_undo.c1 (n : Nat) : XC := cml_undo.d1 n
noncomputable def cml_undo.j1 (n : Nat)  : Option Int :=
  some (0 : Int)
theorem cml_undo.s1 (n : Nat)  : ev (cml_undo.c1 n) [] (⟨retK cml_undo.rs cml_undo.ps cml_undo.r, []⟩ : Ks cml_undo.R) (retK cml_undo.rs cml_undo.ps cml_undo.r) = cml_undo.j1 n  := by kernel_rfl
noncomputable def cml_undo.H1 (n : Nat) (X : XC) : St → Option cml_undo.R := fun st => ghK [.keep []] st fun st => ev X st (⟨retK cml_undo.rs cml_undo.ps cml_undo.r, []⟩ : Ks cml_undo.R) (retK cml_undo.rs cml_undo.ps cml_undo.r)
noncomputable abbrev cml_undo.K1 (n : Nat) : St → Option cml_undo.R := cml_undo.H1 n (cml_undo.c1 n)
noncomputable def cml_undo.d2 (n : Nat) : XC :=
  (.aft (.cond (.t 4)
  (.seq (.reg (.op (.mv 2 (.c ⟨.int .u8, ((5 : Int) : Int)⟩)) none <| .nil)) <|
  .ret)
  (.seq (.reg (.op (.bin 8 .eql (.t 3) (.c ⟨.int .u8, ((2 : Int) : Int)⟩)) none <| .op (.mv 7 (.t 8)) none <| .nil)) <|
  (.cond (.t 7)
  (.seq (.reg (.op (.mv 2 (.c ⟨.int .u8, ((6 : Int) : Int)⟩)) none <| .nil)) <|
  .ret)
  .skip))) [.keep []])
noncomputable abbrev cml_undo.c2 (n : Nat) : XC := cml_undo.d2 n
theorem cml_undo.q1_0_r (n : Nat) (X : XC)  : cml_undo.H1 n X [] = (ev X [] (⟨retK cml_undo.rs cml_undo.ps cml_undo.r, []⟩ : Ks cml_undo.R) (retK cml_undo.rs cml_undo.ps cml_undo.r) : Option cml_undo.R) := by kernel_rfl
theorem cml_undo.q1_0 (n : Nat)  : cml_undo.K1 n [] = cml_undo.j1 n  := (cml_undo.q1_0_r n (cml_undo.c1 n) ).trans (cml_undo.s1 n )
noncomputable def cml_undo.j2 (n : Nat) (x3 : Int) (x4 : Bool) : Option Int :=
  bif x4 then (some (5 : Int))
  else (bif (decide (x3 = (2 : Int))) then (some (6 : Int))
  else (cml_undo.j1 n ))
theorem cml_undo.w2 (n : Nat) (x3 : Int) (x4 : Bool) (K1 : St → Option cml_undo.R) : ev (cml_undo.d2 n) [(3, some ⟨.int .u8, x3⟩), (4, some ⟨.bool, x4⟩)] (⟨retK cml_undo.rs cml_undo.ps cml_undo.r, [(0, K1)]⟩ : Ks cml_undo.R) K1 =
  (bif x4 then (some (5 : Int))
  else (bif (decide (x3 = (2 : Int))) then (some (6 : Int))
  else (K1 [])) : Option cml_undo.R) := by kernel_rfl
theorem cml_undo.s2 (n : Nat) (x3 : Int) (x4 : Bool) : ev (cml_undo.c2 n) [(3, some ⟨.int .u8, x3⟩), (4, some ⟨.bool, x4⟩)] (⟨retK cml_undo.rs cml_undo.ps cml_undo.r, [(0, (cml_undo.K1 n))]⟩ : Ks cml_undo.R) (cml_undo.K1 n) = cml_undo.j2 n x3 x4 := (cml_undo.w2 n x3 x4 (cml_undo.K1 n)).trans (by simp -implicitDefEqProofs only [cml_undo.j2, cml_undo.q1_0 n] <;> kernel_rfl)
noncomputable def cml_undo.H2 (n : Nat) (K1 : St → Option cml_undo.R) (X : XC) : St → Option cml_undo.R := fun st => ghK [.keep [3, 4]] st fun st => ev X st (⟨retK cml_undo.rs cml_undo.ps cml_undo.r, [(0, K1)]⟩ : Ks cml_undo.R) K1
noncomputable abbrev cml_undo.K2 (n : Nat) : St → Option cml_undo.R := cml_undo.H2 n (cml_undo.K1 n) (cml_undo.c2 n)
noncomputable def cml_undo.d (n : Nat) (X1 X2 : XC) : XC :=
  (.seq (.reg (.op (.mv 2 (.c ⟨.int .u8, ((0 : Int) : Int)⟩)) none <| .nil)) <|
  (.seq (.aft (.seq (.reg (.op (.mv 3 (.t 0)) none <| .nil)) <|
  (.block 0 (.seq (.aft (.seq (.reg (.op (.bin 5 .eql (.t 3) (.c ⟨.int .u8, ((1 : Int) : Int)⟩)) none <| .op (.mv 4 (.t 5)) none <| .nil)) <|
  (.cond (.t 4)
  .skip
  (.reg (.op (.bin 6 .eql (.t 3) (.c ⟨.int .u8, ((3 : Int) : Int)⟩)) none <| .op (.mv 4 (.t 6)) none <| .nil)))) [.keep [3, 4]]) X2))) [.keep []]) X1))
noncomputable abbrev cml_undo.c (n : Nat) : XC := cml_undo.d n (cml_undo.c1 n) (cml_undo.c2 n)
noncomputable def cml_undo.f (n : Nat) (a0 : Int) : Option Int :=
  bif (decide (a0 = (1 : Int))) then (cml_undo.j2 n a0 (decide (a0 = (1 : Int))))
  else (cml_undo.j2 n a0 (decide (a0 = (3 : Int))))
theorem cml_undo.w (n : Nat) (a0 : Int) (X1 X2 : XC) : evFn (cml_undo.d n X1 X2) cml_undo.rs cml_undo.ps cml_undo.r (a0, ()) =
  (bif (decide (a0 = (1 : Int))) then (ev X2 [(3, some ⟨.int .u8, a0⟩), (4, some ⟨.bool, ((decide (a0 = (1 : Int))) : Bool)⟩)] (⟨retK cml_undo.rs cml_undo.ps cml_undo.r, [(0, (cml_undo.H1 n X1))]⟩ : Ks cml_undo.R) (cml_undo.H1 n X1))
  else (ev X2 [(3, some ⟨.int .u8, a0⟩), (4, some ⟨.bool, ((decide (a0 = (3 : Int))) : Bool)⟩)] (⟨retK cml_undo.rs cml_undo.ps cml_undo.r, [(0, (cml_undo.H1 n X1))]⟩ : Ks cml_undo.R) (cml_undo.H1 n X1)) : Option cml_undo.R) := by kernel_rfl
theorem cml_undo.ok (n : Nat) (a0 : Int) : evFn (cml_undo.c n) cml_undo.rs cml_undo.ps cml_undo.r (a0, ()) = cml_undo.f n a0 := (cml_undo.w n a0 (cml_undo.c1 n) (cml_undo.c2 n)).trans (by simp -implicitDefEqProofs only [cml_undo.f, cml_undo.s2 n] <;> kernel_rfl)
noncomputable def cml_undo.sp (n : Nat) : FSpec := { f := 45, ps := cml_undo.ps, r := cml_undo.r, run := fun x => cml_undo.f n x.1 }
theorem cml_undo.calls (n : Nat) : (cml_undo.c n).calls = [] := by kernel_rfl
theorem cml_undo.fits (n : Nat) : fnB tab hd Try.f45 (cml_undo.c n) cml_undo.rs (cml_undo.sp n).ps (cml_undo.sp n).r = true := by kernel_rfl
theorem cml_undo.sound (n : Nat) : Sound Try.prog (cml_undo.sp n) := by
  refine fnB_sound tabOk eqFacts mixed (fn := Try.f45) (c := cml_undo.c n) (rs := cml_undo.rs) (by kernel_rfl) ?_ (cml_undo.fits n) ?_
  · rw [cml_undo.calls]
    intro s hs; cases hs
  · rintro ⟨a0, ⟨⟩⟩ y h
    exact (cml_undo.ok n a0).trans h
theorem cml_undo.meets (n : Nat) : Meets Try.prog (cml_undo.sp n) := (cml_undo.sound n).meets
/-! backwater/tree.Names$1 -/
abbrev tree_Names_1.ps : List (Ty × Bool) := [(.int .u32, false)]
abbrev tree_Names_1.r : Ty := .bool
abbrev tree_Names_1.rs : List RV := [.t 2]
abbrev tree_Names_1.R : Type := (rtOf tree_Names_1.ps tree_Names_1.r).den
noncomputable def tree_Names_1.d (n : Nat) : XC :=
  (.seq (.reg (.op (.mv 2 (.c ⟨.bool, (false : Bool)⟩)) none <| .nil)) <|
  (.seq (.reg (.op (.mv 3 (.t 0)) none <| .op (.bin 4 .eql (.t 3) (.c ⟨.int .u32, ((0 : Int) : Int)⟩)) none <| .op (.mv 2 (.t 4)) none <| .nil)) <|
  .ret))
noncomputable abbrev tree_Names_1.c (n : Nat) : XC := tree_Names_1.d n
noncomputable def tree_Names_1.f (n : Nat) (a0 : Int) : Option Bool :=
  some (decide (a0 = (0 : Int)))
theorem tree_Names_1.ok (n : Nat) (a0 : Int) : evFn (tree_Names_1.c n) tree_Names_1.rs tree_Names_1.ps tree_Names_1.r (a0, ()) = tree_Names_1.f n a0 := by kernel_rfl
noncomputable def tree_Names_1.sp (n : Nat) : FSpec := { f := 57, ps := tree_Names_1.ps, r := tree_Names_1.r, run := fun x => tree_Names_1.f n x.1 }
theorem tree_Names_1.calls (n : Nat) : (tree_Names_1.c n).calls = [] := by kernel_rfl
theorem tree_Names_1.fits (n : Nat) : fnB tab hd Try.f57 (tree_Names_1.c n) tree_Names_1.rs (tree_Names_1.sp n).ps (tree_Names_1.sp n).r = true := by kernel_rfl
theorem tree_Names_1.sound (n : Nat) : Sound Try.prog (tree_Names_1.sp n) := by
  refine fnB_sound tabOk eqFacts mixed (fn := Try.f57) (c := tree_Names_1.c n) (rs := tree_Names_1.rs) (by kernel_rfl) ?_ (tree_Names_1.fits n) ?_
  · rw [tree_Names_1.calls]
    intro s hs; cases hs
  · rintro ⟨a0, ⟨⟩⟩ y h
    exact (tree_Names_1.ok n a0).trans h
theorem tree_Names_1.meets (n : Nat) : Meets Try.prog (tree_Names_1.sp n) := (tree_Names_1.sound n).meets
/-! slices.IndexFunc[[]backwater/api.Fid,backwater/api.Fid] -/
abbrev slices_IndexFunc.ps : List (Ty × Bool) := [(.slB .U false (.int .u32), false), (.fn 57 .unit, false)]
abbrev slices_IndexFunc.r : Ty := .int .i64
abbrev slices_IndexFunc.rs : List RV := [.t 4]
abbrev slices_IndexFunc.R : Type := (rtOf slices_IndexFunc.ps slices_IndexFunc.r).den
noncomputable def slices_IndexFunc.d1 (n : Nat) : XC :=
  (.seq (.reg (.op (.mv 4 (.c ⟨.int .i64, ((-1 : Int) : Int)⟩)) none <| .nil)) <|
  .ret)
noncomputable abbrev slices_IndexFunc.c1 (n : Nat) : XC := slices_IndexFunc.d1 n
noncomputable def slices_IndexFunc.j1 (n : Nat)  : Option Int :=
  some (-1 : Int)
theorem slices_IndexFunc.s1 (n : Nat)  : ev (slices_IndexFunc.c1 n) [] (⟨retK slices_IndexFunc.rs slices_IndexFunc.ps slices_IndexFunc.r, []⟩ : Ks slices_IndexFunc.R) (retK slices_IndexFunc.rs slices_IndexFunc.ps slices_IndexFunc.r) = slices_IndexFunc.j1 n  := by kernel_rfl
noncomputable def slices_IndexFunc.H1 (n : Nat) (X : XC) : St → Option slices_IndexFunc.R := fun st => ghK [.keep []] st fun st => ev X st (⟨retK slices_IndexFunc.rs slices_IndexFunc.ps slices_IndexFunc.r, []⟩ : Ks slices_IndexFunc.R) (retK slices_IndexFunc.rs slices_IndexFunc.ps slices_IndexFunc.r)
noncomputable abbrev slices_IndexFunc.K1 (n : Nat) : St → Option slices_IndexFunc.R := slices_IndexFunc.H1 n (slices_IndexFunc.c1 n)
noncomputable def slices_IndexFunc.Kb2 (Kr2 : St → Option slices_IndexFunc.R) : St → Option slices_IndexFunc.R := fun st => ghK [.keep [0, 1, 7, 8]] st Kr2
noncomputable def slices_IndexFunc.d3 (n : Nat) : XC :=
  (.aft (.reg (.op (.bin 18 .add (.t 8) (.c ⟨.int .i64, ((1 : Int) : Int)⟩)) none <| .op (.mv 8 (.t 18)) none <| .nil)) [.keep [0, 1, 7, 8]])
noncomputable abbrev slices_IndexFunc.c3 (n : Nat) : XC := slices_IndexFunc.d3 n
theorem slices_IndexFunc.qb2_0 (Kr2 : St → Option slices_IndexFunc.R) (kr2 : (List Int) → Unit → Int → Int → Option Int) (hK2 : ∀ (x0 : List Int) (x1 : Unit) (x7 : Int) (x8 : Int), Kr2 [(0, some ⟨.slB .U false (.int .u32), x0⟩), (1, some ⟨.fn 57 .unit, x1⟩), (7, some ⟨.int .i64, x7⟩), (8, some ⟨.int .i64, x8⟩)] = kr2 x0 x1 x7 x8) (x0 : List Int) (x1 : Unit) (x7 : Int) (x8 : Int) : slices_IndexFunc.Kb2 Kr2 [(0, some ⟨.slB .U false (.int .u32), x0⟩), (1, some ⟨.fn 57 .unit, x1⟩), (7, some ⟨.int .i64, x7⟩), (8, some ⟨.int .i64, x8⟩)] = kr2 x0 x1 x7 x8 := (by kernel_rfl : _ = Kr2 [(0, some ⟨.slB .U false (.int .u32), x0⟩), (1, some ⟨.fn 57 .unit, x1⟩), (7, some ⟨.int .i64, x7⟩), (8, some ⟨.int .i64, x8⟩)]).trans (hK2 x0 x1 x7 x8)
noncomputable def slices_IndexFunc.j3 (n : Nat) (kr2 : (List Int) → Unit → Int → Int → Option Int) (x0 : List Int) (x1 : Unit) (x7 : Int) (x8 : Int) : Option Int :=
  kr2 x0 x1 x7 (IntKind.i64.wrap (x8 + (1 : Int)))
theorem slices_IndexFunc.w3 (n : Nat) (Kr2 : St → Option slices_IndexFunc.R) (x0 : List Int) (x1 : Unit) (x7 : Int) (x8 : Int) (K1 : St → Option slices_IndexFunc.R) (Kb2 : St → Option slices_IndexFunc.R) : ev (slices_IndexFunc.d3 n) [(0, some ⟨.slB .U false (.int .u32), x0⟩), (1, some ⟨.fn 57 .unit, x1⟩), (7, some ⟨.int .i64, x7⟩), (8, some ⟨.int .i64, x8⟩)] (⟨retK slices_IndexFunc.rs slices_IndexFunc.ps slices_IndexFunc.r, [(0, K1)]⟩ : Ks slices_IndexFunc.R) Kb2 =
  (Kb2 [(0, some ⟨.slB .U false (.int .u32), x0⟩), (1, some ⟨.fn 57 .unit, x1⟩), (7, some ⟨.int .i64, x7⟩), (8, some ⟨.int .i64, (IntKind.i64.wrap (x8 + (1 : Int)))⟩)] : Option slices_IndexFunc.R) := by kernel_rfl
theorem slices_IndexFunc.s3 (n : Nat) (Kr2 : St → Option slices_IndexFunc.R) (kr2 : (List Int) → Unit → Int → Int → Option Int) (hK2 : ∀ (x0 : List Int) (x1 : Unit) (x7 : Int) (x8 : Int), Kr2 [(0, some ⟨.slB .U false (.int .u32), x0⟩), (1, some ⟨.fn 57 .unit, x1⟩), (7, some ⟨.int .i64, x7⟩), (8, some ⟨.int .i64, x8⟩)] = kr2 x0 x1 x7 x8) (x0 : List Int) (x1 : Unit) (x7 : Int) (x8 : Int) : ev (slices_IndexFunc.c3 n) [(0, some ⟨.slB .U false (.int .u32), x0⟩), (1, some ⟨.fn 57 .unit, x1⟩), (7, some ⟨.int .i64, x7⟩), (8, some ⟨.int .i64, x8⟩)] (⟨retK slices_IndexFunc.rs slices_IndexFunc.ps slices_IndexFunc.r, [(0, (slices_IndexFunc.K1 n))]⟩ : Ks slices_IndexFunc.R) (slices_IndexFunc.Kb2 Kr2) = slices_IndexFunc.j3 n kr2 x0 x1 x7 x8 := (slices_IndexFunc.w3 n Kr2 x0 x1 x7 x8 (slices_IndexFunc.K1 n) (slices_IndexFunc.Kb2 Kr2)).trans (by simp -implicitDefEqProofs only [slices_IndexFunc.j3, slices_IndexFunc.qb2_0 Kr2 kr2 hK2] <;> kernel_rfl)
noncomputable def slices_IndexFunc.H3 (n : Nat) (K1 : St → Option slices_IndexFunc.R) (Kb2 : St → Option slices_IndexFunc.R) (X : XC) : St → Option slices_IndexFunc.R := fun st => ghK [.keep [0, 1, 7, 8]] st fun st => ev X st (⟨retK slices_IndexFunc.rs slices_IndexFunc.ps slices_IndexFunc.r, [(0, K1)]⟩ : Ks slices_IndexFunc.R) Kb2
noncomputable abbrev slices_IndexFunc.K3 (n : Nat) (Kr2 : St → Option slices_IndexFunc.R) : St → Option slices_IndexFunc.R := slices_IndexFunc.H3 n (slices_IndexFunc.K1 n) (slices_IndexFunc.Kb2 Kr2) (slices_IndexFunc.c3 n)
noncomputable def slices_IndexFunc.db2 (n : Nat) (X3 : XC) : XC :=
  (.aft (.seq (.reg (.op (.bin 9 .lss (.t 8) (.t 7)) none <| .nil)) <|
  (.seq (.cond (.t 9)
  .skip
  (.pre [.keep []] (.exit 0))) <|
  (.seq (.aft (.block 1 (.seq (.reg (.op (.mv 10 (.t 8)) none <| .op (.mv 5 (.t 10)) none <| .nil)) <|
  (.seq (.reg (.op (.mv 11 (.t 1)) none <| .op (.mv 12 (.t 0)) none <| .op (.mv 13 (.t 5)) none <| .op (.idxA 14 (.t 12) (.t 13) 1 0) none <| .op (.ld 15 14 1 false) none <| .op (.callV (some 16) (tree_Names_1.sp n) 11 19 [.v (.t 15)]) none <| .nil)) <|
  (.cond (.t 16)
  (.seq (.pre [.keep [5]] (.reg (.op (.mv 17 (.t 5)) none <| .op (.mv 4 (.t 17)) none <| .nil))) <|
  .ret)
  .skip)))) [.keep [0, 1, 7, 8]]) X3))) [.keep [0, 1, 7, 8]])
noncomputable abbrev slices_IndexFunc.cb2 (n : Nat) : XC := slices_IndexFunc.db2 n (slices_IndexFunc.c3 n)
theorem slices_IndexFunc.q1_0_r (n : Nat) (X : XC)  : slices_IndexFunc.H1 n X [] = (ev X [] (⟨retK slices_IndexFunc.rs slices_IndexFunc.ps slices_IndexFunc.r, []⟩ : Ks slices_IndexFunc.R) (retK slices_IndexFunc.rs slices_IndexFunc.ps slices_IndexFunc.r) : Option slices_IndexFunc.R) := by kernel_rfl
theorem slices_IndexFunc.q1_0 (n : Nat)  : slices_IndexFunc.K1 n [] = slices_IndexFunc.j1 n  := (slices_IndexFunc.q1_0_r n (slices_IndexFunc.c1 n) ).trans (slices_IndexFunc.s1 n )
noncomputable def slices_IndexFunc.l2 (n : Nat) : Nat → (List Int) → Unit → Int → Int → Option Int
  | 0, _, _, _, _ => none
  | k + 1, x0, x1, x7, x8 =>
  bif (decide (x8 < x7)) then (idxK x0 x8 fun e1 => (tree_Names_1.f n e1).bind fun r2 => bif r2 then (some x8)
  else (slices_IndexFunc.j3 n (slices_IndexFunc.l2 n k) x0 x1 x7 x8))
  else (slices_IndexFunc.j1 n )
theorem slices_IndexFunc.wb2 (n : Nat) (Kr2 : St → Option slices_IndexFunc.R) (x0 : List Int) (x1 : Unit) (x7 : Int) (x8 : Int) (K1 : St → Option slices_IndexFunc.R) (X3 : XC) : ev (slices_IndexFunc.db2 n X3) (keepSt [(0, some ⟨.slB .U false (.int .u32), x0⟩), (1, some ⟨.fn 57 .unit, x1⟩), (7, some ⟨.int .i64, x7⟩), (8, some ⟨.int .i64, x8⟩)] [0, 1, 7, 8]) (⟨retK slices_IndexFunc.rs slices_IndexFunc.ps slices_IndexFunc.r, [(0, K1)]⟩ : Ks slices_IndexFunc.R) Kr2 =
  (bif (decide (x8 < x7)) then (idxK x0 x8 fun e1 => (tree_Names_1.f n e1).bind fun r2 => bif r2 then (some x8)
  else (ev X3 [(0, some ⟨.slB .U false (.int .u32), x0⟩), (1, some ⟨.fn 57 .unit, x1⟩), (7, some ⟨.int .i64, x7⟩), (8, some ⟨.int .i64, x8⟩)] (⟨retK slices_IndexFunc.rs slices_IndexFunc.ps slices_IndexFunc.r, [(0, K1)]⟩ : Ks slices_IndexFunc.R) (slices_IndexFunc.Kb2 Kr2)))
  else (K1 []) : Option slices_IndexFunc.R) := by kernel_rfl
theorem slices_IndexFunc.l2_ok (n : Nat) (k : Nat) : ∀ (x0 : List Int) (x1 : Unit) (x7 : Int) (x8 : Int), loopEv [0, 1, 7, 8] (fun s K => ev (slices_IndexFunc.cb2 n) s (⟨retK slices_IndexFunc.rs slices_IndexFunc.ps slices_IndexFunc.r, [(0, (slices_IndexFunc.K1 n))]⟩ : Ks slices_IndexFunc.R) K) k [(0, some ⟨.slB .U false (.int .u32), x0⟩), (1, some ⟨.fn 57 .unit, x1⟩), (7, some ⟨.int .i64, x7⟩), (8, some ⟨.int .i64, x8⟩)] = slices_IndexFunc.l2 n k x0 x1 x7 x8 := by
  induction k with
  | zero => intros; rfl
  | succ k ih =>
    intro x0 x1 x7 x8
    exact (slices_IndexFunc.wb2 n (fun st => loopEv [0, 1, 7, 8] (fun s K => ev (slices_IndexFunc.cb2 n) s (⟨retK slices_IndexFunc.rs slices_IndexFunc.ps slices_IndexFunc.r, [(0, (slices_IndexFunc.K1 n))]⟩ : Ks slices_IndexFunc.R) K) k st) x0 x1 x7 x8 (slices_IndexFunc.K1 n) (slices_IndexFunc.c3 n)).trans (by simp -implicitDefEqProofs only [slices_IndexFunc.l2, slices_IndexFunc.s3 n (fun st => loopEv [0, 1, 7, 8] (fun s K => ev (slices_IndexFunc.cb2 n) s (⟨retK slices_IndexFunc.rs slices_IndexFunc.ps slices_IndexFunc.r, [(0, (slices_IndexFunc.K1 n))]⟩ : Ks slices_IndexFunc.R) K) k st) (slices_IndexFunc.l2 n k) ih, slices_IndexFunc.q1_0 n] <;> kernel_rfl)
noncomputable def slices_IndexFunc.d (n : Nat) (X1 Y2 : XC) : XC :=
  (.seq (.reg (.op (.mv 4 (.c ⟨.int .i64, ((0 : Int) : Int)⟩)) none <| .nil)) <|
  (.seq (.aft (.seq (.reg (.op (.mv 6 (.t 0)) none <| .op (.len 7 (.t 6) false) none <| .op (.mv 8 (.c ⟨.int .i64, ((0 : Int) : Int)⟩)) none <| .nil)) <|
  (.block 0 (.pre [.keep [0, 1, 7, 8]] (.loop n [0, 1, 7, 8] Y2)))) [.keep []]) X1))
noncomputable abbrev slices_IndexFunc.c (n : Nat) : XC := slices_IndexFunc.d n (slices_IndexFunc.c1 n) (slices_IndexFunc.cb2 n)
noncomputable def slices_IndexFunc.f (n : Nat) (a0 : List Int) (a1 : Unit) : Option Int :=
  slices_IndexFunc.l2 n n a0 a1 (a0.length : Int) (0 : Int)
theorem slices_IndexFunc.w (n : Nat) (a0 : List Int) (a1 : Unit) (X1 Y2 : XC) : evFn (slices_IndexFunc.d n X1 Y2) slices_IndexFunc.rs slices_IndexFunc.ps slices_IndexFunc.r (a0, a1, ()) =
  (loopEv [0, 1, 7, 8] (fun s K => ev Y2 s (⟨retK slices_IndexFunc.rs slices_IndexFunc.ps slices_IndexFunc.r, [(0, (slices_IndexFunc.H1 n X1))]⟩ : Ks slices_IndexFunc.R) K) n [(0, some ⟨.slB .U false (.int .u32), a0⟩), (1, some ⟨.fn 57 .unit, a1⟩), (7, some ⟨.int .i64, (a0.length : Int)⟩), (8, some ⟨.int .i64, (0 : Int)⟩)] : Option slices_IndexFunc.R) := by kernel_rfl
theorem slices_IndexFunc.ok (n : Nat) (a0 : List Int) (a1 : Unit) : evFn (slices_IndexFunc.c n) slices_IndexFunc.rs slices_IndexFunc.ps slices_IndexFunc.r (a0, a1, ()) = slices_IndexFunc.f n a0 a1 := (slices_IndexFunc.w n a0 a1 (slices_IndexFunc.c1 n) (slices_IndexFunc.cb2 n)).trans (by simp -implicitDefEqProofs only [slices_IndexFunc.f, slices_IndexFunc.l2_ok n] <;> kernel_rfl)
noncomputable def slices_IndexFunc.sp (n : Nat) : FSpec := { f := 67, ps := slices_IndexFunc.ps, r := slices_IndexFunc.r, run := fun x => slices_IndexFunc.f n x.1 x.2.1 }
theorem slices_IndexFunc.calls (n : Nat) : (slices_IndexFunc.c n).calls = [tree_Names_1.sp n] := by kernel_rfl
theorem slices_IndexFunc.fits (n : Nat) : fnB tab hd Try.f67 (slices_IndexFunc.c n) slices_IndexFunc.rs (slices_IndexFunc.sp n).ps (slices_IndexFunc.sp n).r = true := by kernel_rfl
theorem slices_IndexFunc.sound (n : Nat) : Sound Try.prog (slices_IndexFunc.sp n) := by
  refine fnB_sound tabOk eqFacts mixed (fn := Try.f67) (c := slices_IndexFunc.c n) (rs := slices_IndexFunc.rs) (by kernel_rfl) ?_ (slices_IndexFunc.fits n) ?_
  · rw [slices_IndexFunc.calls]
    intro s hs
    simp only [List.mem_cons, List.not_mem_nil, or_false] at hs
    rcases hs with rfl
    · exact tree_Names_1.meets n
  · rintro ⟨a0, a1, ⟨⟩⟩ y h
    exact (slices_IndexFunc.ok n a0 a1).trans h
theorem slices_IndexFunc.meets (n : Nat) : Meets Try.prog (slices_IndexFunc.sp n) := (slices_IndexFunc.sound n).meets
/-! slices.DeleteFunc[[]backwater/api.Fid,backwater/api.Fid] -/
abbrev slices_DeleteFunc.ps : List (Ty × Bool) := [(.slX .U (.int .u32), false), (.fn 57 .unit, false)]
abbrev slices_DeleteFunc.r : Ty := .slX .U (.int .u32)
abbrev slices_DeleteFunc.rs : List RV := [.t 4]
abbrev slices_DeleteFunc.R : Type := (rtOf slices_DeleteFunc.ps slices_DeleteFunc.r).den
noncomputable def slices_DeleteFunc.d1 (n : Nat) : XC :=
  (.seq (.reg (.op (.als 36 0) none <| .op (.mv 37 (.t 5)) none <| .op (.slcT 38 36 (.t 37) 1) none <| .op (.clr 38 ⟨.int .u32, ((0 : Int) : Int)⟩ 4) none <| .nil)) <|
  (.seq (.reg (.op (.take 39 0) none <| .op (.mv 40 (.t 5)) none <| .op (.slcX 41 39 (.t 40) 1) none <| .op (.take 4 41) none <| .nil)) <|
  .ret))
noncomputable abbrev slices_DeleteFunc.c1 (n : Nat) : XC := slices_DeleteFunc.d1 n
noncomputable def slices_DeleteFunc.j1 (n : Nat) (x0 : List Int) (x5 : Int) : Option (List Int) :=
  sliceK x5 (x0.length : Int) x0.length (eqK (x5 + ((x0.length : Int) - x5)) (x0.length : Int) (sliceK 0 x5 (x0.take (x5).toNat ++ List.replicate (((x0.length : Int) - x5)).toNat (0 : Int)).length (some ((x0.take (x5).toNat ++ List.replicate (((x0.length : Int) - x5)).toNat (0 : Int)).take (x5).toNat))))
theorem slices_DeleteFunc.s1 (n : Nat) (x0 : List Int) (x5 : Int) : ev (slices_DeleteFunc.c1 n) [(0, some ⟨.slX .U (.int .u32), x0⟩), (5, some ⟨.int .i64, x5⟩)] (⟨retK slices_DeleteFunc.rs slices_DeleteFunc.ps slices_DeleteFunc.r, []⟩ : Ks slices_DeleteFunc.R) (retK slices_DeleteFunc.rs slices_DeleteFunc.ps slices_DeleteFunc.r) = slices_DeleteFunc.j1 n x0 x5 := by kernel_rfl
noncomputable def slices_DeleteFunc.H1 (n : Nat) (X : XC) : St → Option slices_DeleteFunc.R := fun st => ghK [.keep [0, 5]] st fun st => ev X st (⟨retK slices_DeleteFunc.rs slices_DeleteFunc.ps slices_DeleteFunc.r, []⟩ : Ks slices_DeleteFunc.R) (retK slices_DeleteFunc.rs slices_DeleteFunc.ps slices_DeleteFunc.r)
noncomputable abbrev slices_DeleteFunc.K1 (n : Nat) : St → Option slices_DeleteFunc.R := slices_DeleteFunc.H1 n (slices_DeleteFunc.c1 n)
noncomputable def slices_DeleteFunc.Kb2 (Kr2 : St → Option slices_DeleteFunc.R) : St → Option slices_DeleteFunc.R := fun st => ghK [.keep [0, 1, 5, 6]] st Kr2
noncomputable def slices_DeleteFunc.d3 (n : Nat) : XC :=
  (.aft (.reg (.op (.mv 20 (.t 6)) none <| .op (.bin 21 .add (.t 20) (.c ⟨.int .i64, ((1 : Int) : Int)⟩)) none <| .op (.mv 6 (.t 21)) none <| .nil)) [.keep [0, 1, 5, 6]])
noncomputable abbrev slices_DeleteFunc.c3 (n : Nat) : XC := slices_DeleteFunc.d3 n
theorem slices_DeleteFunc.qb2_0 (Kr2 : St → Option slices_DeleteFunc.R) (kr2 : (List Int) → Unit → Int → Int → Option (List Int)) (hK2 : ∀ (x0 : List Int) (x1 : Unit) (x5 : Int) (x6 : Int), Kr2 [(0, some ⟨.slX .U (.int .u32), x0⟩), (1, some ⟨.fn 57 .unit, x1⟩), (5, some ⟨.int .i64, x5⟩), (6, some ⟨.int .i64, x6⟩)] = kr2 x0 x1 x5 x6) (x0 : List Int) (x1 : Unit) (x5 : Int) (x6 : Int) : slices_DeleteFunc.Kb2 Kr2 [(0, some ⟨.slX .U (.int .u32), x0⟩), (1, some ⟨.fn 57 .unit, x1⟩), (5, some ⟨.int .i64, x5⟩), (6, some ⟨.int .i64, x6⟩)] = kr2 x0 x1 x5 x6 := (by kernel_rfl : _ = Kr2 [(0, some ⟨.slX .U (.int .u32), x0⟩), (1, some ⟨.fn 57 .unit, x1⟩), (5, some ⟨.int .i64, x5⟩), (6, some ⟨.int .i64, x6⟩)]).trans (hK2 x0 x1 x5 x6)
noncomputable def slices_DeleteFunc.j3 (n : Nat) (kr2 : (List Int) → Unit → Int → Int → Option (List Int)) (x0 : List Int) (x1 : Unit) (x5 : Int) (x6 : Int) : Option (List Int) :=
  kr2 x0 x1 x5 (IntKind.i64.wrap (x6 + (1 : Int)))
theorem slices_DeleteFunc.w3 (n : Nat) (Kr2 : St → Option slices_DeleteFunc.R) (x0 : List Int) (x1 : Unit) (x5 : Int) (x6 : Int) (K1 : St → Option slices_DeleteFunc.R) (Kb2 : St → Option slices_DeleteFunc.R) : ev (slices_DeleteFunc.d3 n) [(0, some ⟨.slX .U (.int .u32), x0⟩), (1, some ⟨.fn 57 .unit, x1⟩), (5, some ⟨.int .i64, x5⟩), (6, some ⟨.int .i64, x6⟩)] (⟨retK slices_DeleteFunc.rs slices_DeleteFunc.ps slices_DeleteFunc.r, [(0, K1)]⟩ : Ks slices_DeleteFunc.R) Kb2 =
  (Kb2 [(0, some ⟨.slX .U (.int .u32), x0⟩), (1, some ⟨.fn 57 .unit, x1⟩), (5, some ⟨.int .i64, x5⟩), (6, some ⟨.int .i64, (IntKind.i64.wrap (x6 + (1 : Int)))⟩)] : Option slices_DeleteFunc.R) := by kernel_rfl
theorem slices_DeleteFunc.s3 (n : Nat) (Kr2 : St → Option slices_DeleteFunc.R) (kr2 : (List Int) → Unit → Int → Int → Option (List Int)) (hK2 : ∀ (x0 : List Int) (x1 : Unit) (x5 : Int) (x6 : Int), Kr2 [(0, some ⟨.slX .U (.int .u32), x0⟩), (1, some ⟨.fn 57 .unit, x1⟩), (5, some ⟨.int .i64, x5⟩), (6, some ⟨.int .i64, x6⟩)] = kr2 x0 x1 x5 x6) (x0 : List Int) (x1 : Unit) (x5 : Int) (x6 : Int) : ev (slices_DeleteFunc.c3 n) [(0, some ⟨.slX .U (.int .u32), x0⟩), (1, some ⟨.fn 57 .unit, x1⟩), (5, some ⟨.int .i64, x5⟩), (6, some ⟨.int .i64, x6⟩)] (⟨retK slices_DeleteFunc.rs slices_DeleteFunc.ps slices_DeleteFunc.r, [(0, (slices_DeleteFunc.K1 n))]⟩ : Ks slices_DeleteFunc.R) (slices_DeleteFunc.Kb2 Kr2) = slices_DeleteFunc.j3 n kr2 x0 x1 x5 x6 := (slices_DeleteFunc.w3 n Kr2 x0 x1 x5 x6 (slices_DeleteFunc.K1 n) (slices_DeleteFunc.Kb2 Kr2)).trans (by simp -implicitDefEqProofs only [slices_DeleteFunc.j3, slices_DeleteFunc.qb2_0 Kr2 kr2 hK2] <;> kernel_rfl)
noncomputable def slices_DeleteFunc.H3 (n : Nat) (K1 : St → Option slices_DeleteFunc.R) (Kb2 : St → Option slices_DeleteFunc.R) (X : XC) : St → Option slices_DeleteFunc.R := fun st => ghK [.keep [0, 1, 5, 6]] st fun st => ev X st (⟨retK slices_DeleteFunc.rs slices_DeleteFunc.ps slices_DeleteFunc.r, [(0, K1)]⟩ : Ks slices_DeleteFunc.R) Kb2
noncomputable abbrev slices_DeleteFunc.K3 (n : Nat) (Kr2 : St → Option slices_DeleteFunc.R) : St → Option slices_DeleteFunc.R := slices_DeleteFunc.H3 n (slices_DeleteFunc.K1 n) (slices_DeleteFunc.Kb2 Kr2) (slices_DeleteFunc.c3 n)
noncomputable def slices_DeleteFunc.db2 (n : Nat) (X3 : XC) : XC :=
  (.aft (.seq (.seq (.reg (.op (.mv 16 (.t 6)) none <| .op (.bor 17 0) none <| .op (.len 18 (.t 17) false) none <| .op (.bin 19 .lss (.t 16) (.t 18)) none <| .nil)) <|
  (.cond (.t 19)
  .skip
  (.pre [.keep [0, 5]] (.exit 0)))) <|
  (.seq (.aft (.block 1 (.seq (.reg (.op (.bor 22 0) none <| .op (.mv 23 (.t 6)) none <| .op (.idxA 24 (.t 22) (.t 23) 1 0) none <| .op (.ld 25 24 1 false) none <| .op (.mv 7 (.t 25)) none <| .nil)) <|
  (.seq (.reg (.op (.mv 26 (.t 1)) none <| .op (.mv 27 (.t 7)) none <| .op (.callV (some 28) (tree_Names_1.sp n) 26 42 [.v (.t 27)]) none <| .op (.un 29 .not (.t 28)) none <| .nil)) <|
  (.cond (.t 29)
  (.seq (.pre [.keep [0, 1, 5, 6, 7]] (.reg (.op (.als 30 0) none <| .op (.mv 31 (.t 5)) none <| .op (.mv 32 (.t 7)) none <| .op (.idxE 33 (.t 30) (.t 31) 1) none <| .op (.stE 33 (.t 32) 1) none <| .nil))) <|
  (.reg (.op (.mv 34 (.t 5)) none <| .op (.bin 35 .add (.t 34) (.c ⟨.int .i64, ((1 : Int) : Int)⟩)) none <| .op (.mv 5 (.t 35)) none <| .nil)))
  .skip)))) [.keep [0, 1, 5, 6]]) X3)) [.keep [0, 1, 5, 6]])
noncomputable abbrev slices_DeleteFunc.cb2 (n : Nat) : XC := slices_DeleteFunc.db2 n (slices_DeleteFunc.c3 n)
theorem slices_DeleteFunc.q1_0_r (n : Nat) (X : XC) (x0 : List Int) (x5 : Int) : slices_DeleteFunc.H1 n X [(0, some ⟨.slX .U (.int .u32), x0⟩), (5, some ⟨.int .i64, x5⟩)] = (ev X [(0, some ⟨.slX .U (.int .u32), x0⟩), (5, some ⟨.int .i64, x5⟩)] (⟨retK slices_DeleteFunc.rs slices_DeleteFunc.ps slices_DeleteFunc.r, []⟩ : Ks slices_DeleteFunc.R) (retK slices_DeleteFunc.rs slices_DeleteFunc.ps slices_DeleteFunc.r) : Option slices_DeleteFunc.R) := by kernel_rfl
theorem slices_DeleteFunc.q1_0 (n : Nat) (x0 : List Int) (x5 : Int) : slices_DeleteFunc.K1 n [(0, some ⟨.slX .U (.int .u32), x0⟩), (5, some ⟨.int .i64, x5⟩)] = slices_DeleteFunc.j1 n x0 x5 := (slices_DeleteFunc.q1_0_r n (slices_DeleteFunc.c1 n) x0 x5).trans (slices_DeleteFunc.s1 n x0 x5)
noncomputable def slices_DeleteFunc.l2 (n : Nat) : Nat → (List Int) → Unit → Int → Int → Option (List Int)
  | 0, _, _, _, _ => none
  | k + 1, x0, x1, x5, x6 =>
  bif (decide (x6 < (x0.length : Int))) then (idxK x0 x6 fun e1 => (tree_Names_1.f n e1).bind fun r2 => bif (!r2) then (inK' x5 x0.length (idxK x0 x5 fun e3 => slices_DeleteFunc.j3 n (slices_DeleteFunc.l2 n k) (lset x0 x5 e1) x1 (IntKind.i64.wrap (x5 + (1 : Int))) x6))
  else (slices_DeleteFunc.j3 n (slices_DeleteFunc.l2 n k) x0 x1 x5 x6))
  else (slices_DeleteFunc.j1 n x0 x5)
theorem slices_DeleteFunc.wb2 (n : Nat) (Kr2 : St → Option slices_DeleteFunc.R) (x0 : List Int) (x1 : Unit) (x5 : Int) (x6 : Int) (K1 : St → Option slices_DeleteFunc.R) (X3 : XC) : ev (slices_DeleteFunc.db2 n X3) (keepSt [(0, some ⟨.slX .U (.int .u32), x0⟩), (1, some ⟨.fn 57 .unit, x1⟩), (5, some ⟨.int .i64, x5⟩), (6, some ⟨.int .i64, x6⟩)] [0, 1, 5, 6]) (⟨retK slices_DeleteFunc.rs slices_DeleteFunc.ps slices_DeleteFunc.r, [(0, K1)]⟩ : Ks slices_DeleteFunc.R) Kr2 =
  (bif (decide (x6 < (x0.length : Int))) then (idxK x0 x6 fun e1 => (tree_Names_1.f n e1).bind fun r2 => bif (!r2) then (inK' x5 x0.length (idxK x0 x5 fun e3 => ev X3 [(0, some ⟨.slX .U (.int .u32), ((lset x0 x5 e1) : List Int)⟩), (1, some ⟨.fn 57 .unit, x1⟩), (5, some ⟨.int .i64, (IntKind.i64.wrap (x5 + (1 : Int)))⟩), (6, some ⟨.int .i64, x6⟩)] (⟨retK slices_DeleteFunc.rs slices_DeleteFunc.ps slices_DeleteFunc.r, [(0, K1)]⟩ : Ks slices_DeleteFunc.R) (slices_DeleteFunc.Kb2 Kr2)))
  else (ev X3 [(0, some ⟨.slX .U (.int .u32), x0⟩), (1, some ⟨.fn 57 .unit, x1⟩), (5, some ⟨.int .i64, x5⟩), (6, some ⟨.int .i64, x6⟩)] (⟨retK slices_DeleteFunc.rs slices_DeleteFunc.ps slices_DeleteFunc.r, [(0, K1)]⟩ : Ks slices_DeleteFunc.R) (slices_DeleteFunc.Kb2 Kr2)))
  else (K1 [(0, some ⟨.slX .U (.int .u32), x0⟩), (5, some ⟨.int .i64, x5⟩)]) : Option slices_DeleteFunc.R) := by kernel_rfl
theorem slices_DeleteFunc.l2_ok (n : Nat) (k : Nat) : ∀ (x0 : List Int) (x1 : Unit) (x5 : Int) (x6 : Int), loopEv [0, 1, 5, 6] (fun s K => ev (slices_DeleteFunc.cb2 n) s (⟨retK slices_DeleteFunc.rs slices_DeleteFunc.ps slices_DeleteFunc.r, [(0, (slices_DeleteFunc.K1 n))]⟩ : Ks slices_DeleteFunc.R) K) k [(0, some ⟨.slX .U (.int .u32), x0⟩), (1, some ⟨.fn 57 .unit, x1⟩), (5, some ⟨.int .i64, x5⟩), (6, some ⟨.int .i64, x6⟩)] = slices_DeleteFunc.l2 n k x0 x1 x5 x6 := by
  induction k with
  | zero => intros; rfl
  | succ k ih =>
    intro x0 x1 x5 x6
    exact (slices_DeleteFunc.wb2 n (fun st => loopEv [0, 1, 5, 6] (fun s K => ev (slices_DeleteFunc.cb2 n) s (⟨retK slices_DeleteFunc.rs slices_DeleteFunc.ps slices_DeleteFunc.r, [(0, (slices_DeleteFunc.K1 n))]⟩ : Ks slices_DeleteFunc.R) K) k st) x0 x1 x5 x6 (slices_DeleteFunc.K1 n) (slices_DeleteFunc.c3 n)).trans (by simp -implicitDefEqProofs only [slices_DeleteFunc.l2, slices_DeleteFunc.s3 n (fun st => loopEv [0, 1, 5, 6] (fun s K => ev (slices_DeleteFunc.cb2 n) s (⟨retK slices_DeleteFunc.rs slices_DeleteFunc.ps slices_DeleteFunc.r, [(0, (slices_DeleteFunc.K1 n))]⟩ : Ks slices_DeleteFunc.R) K) k st) (slices_DeleteFunc.l2 n k) ih, slices_DeleteFunc.q1_0 n] <;> kernel_rfl)
noncomputable def slices_DeleteFunc.d (n : Nat) (X1 Y2 : XC) : XC :=
  (.seq (.reg (.op (.mv 4 (.c ⟨.nil 0, ()⟩)) none <| .nil)) <|
  (.seq (.reg (.op (.bor 8 0) none <| .op (.mv 9 (.t 1)) none <| .op (.call (some 10) (slices_IndexFunc.sp n) [.v (.t 8), .v (.t 9)]) none <| .op (.mv 5 (.t 10)) none <| .nil)) <|
  (.seq (.seq (.reg (.op (.mv 11 (.t 5)) none <| .op (.bin 12 .eql (.t 11) (.c ⟨.int .i64, ((-1 : Int) : Int)⟩)) none <| .nil)) <|
  (.cond (.t 12)
  (.seq (.reg (.op (.take 13 0) none <| .op (.take 4 13) none <| .nil)) <|
  .ret)
  .skip)) <|
  (.seq (.aft (.seq (.reg (.op (.mv 14 (.t 5)) none <| .op (.bin 15 .add (.t 14) (.c ⟨.int .i64, ((1 : Int) : Int)⟩)) none <| .op (.mv 6 (.t 15)) none <| .nil)) <|
  (.block 0 (.pre [.keep [0, 1, 5, 6]] (.loop n [0, 1, 5, 6] Y2)))) [.keep [0, 5]]) X1))))
noncomputable abbrev slices_DeleteFunc.c (n : Nat) : XC := slices_DeleteFunc.d n (slices_DeleteFunc.c1 n) (slices_DeleteFunc.cb2 n)
noncomputable def slices_DeleteFunc.f (n : Nat) (a0 : List Int) (a1 : Unit) : Option (List Int) :=
  (slices_IndexFunc.f n a0 a1).bind fun r1 => bif (decide (r1 = (-1 : Int))) then (some a0)
  else (slices_DeleteFunc.l2 n n a0 a1 r1 (IntKind.i64.wrap (r1 + (1 : Int))))
theorem slices_DeleteFunc.w (n : Nat) (a0 : List Int) (a1 : Unit) (X1 Y2 : XC) : evFn (slices_DeleteFunc.d n X1 Y2) slices_DeleteFunc.rs slices_DeleteFunc.ps slices_DeleteFunc.r (a0, a1, ()) =
  ((slices_IndexFunc.f n a0 a1).bind fun r1 => bif (decide (r1 = (-1 : Int))) then (some a0)
  else (loopEv [0, 1, 5, 6] (fun s K => ev Y2 s (⟨retK slices_DeleteFunc.rs slices_DeleteFunc.ps slices_DeleteFunc.r, [(0, (slices_DeleteFunc.H1 n X1))]⟩ : Ks slices_DeleteFunc.R) K) n [(0, some ⟨.slX .U (.int .u32), a0⟩), (1, some ⟨.fn 57 .unit, a1⟩), (5, some ⟨.int .i64, r1⟩), (6, some ⟨.int .i64, (IntKind.i64.wrap (r1 + (1 : Int)))⟩)]) : Option slices_DeleteFunc.R) := by kernel_rfl
theorem slices_DeleteFunc.ok (n : Nat) (a0 : List Int) (a1 : Unit) : evFn (slices_DeleteFunc.c n) slices_DeleteFunc.rs slices_DeleteFunc.ps slices_DeleteFunc.r (a0, a1, ()) = slices_DeleteFunc.f n a0 a1 := (slices_DeleteFunc.w n a0 a1 (slices_DeleteFunc.c1 n) (slices_DeleteFunc.cb2 n)).trans (by simp -implicitDefEqProofs only [slices_DeleteFunc.f, slices_DeleteFunc.l2_ok n] <;> kernel_rfl)
noncomputable def slices_DeleteFunc.sp (n : Nat) : FSpec := { f := 56, ps := slices_DeleteFunc.ps, r := slices_DeleteFunc.r, run := fun x => slices_DeleteFunc.f n x.1 x.2.1 }
theorem slices_DeleteFunc.calls (n : Nat) : (slices_DeleteFunc.c n).calls = [slices_IndexFunc.sp n, tree_Names_1.sp n] := by kernel_rfl
theorem slices_DeleteFunc.fits (n : Nat) : fnB tab hd Try.f56 (slices_DeleteFunc.c n) slices_DeleteFunc.rs (slices_DeleteFunc.sp n).ps (slices_DeleteFunc.sp n).r = true := by kernel_rfl
theorem slices_DeleteFunc.sound (n : Nat) : Sound Try.prog (slices_DeleteFunc.sp n) := by
  refine fnB_sound tabOk eqFacts mixed (fn := Try.f56) (c := slices_DeleteFunc.c n) (rs := slices_DeleteFunc.rs) (by kernel_rfl) ?_ (slices_DeleteFunc.fits n) ?_
  · rw [slices_DeleteFunc.calls]
    intro s hs
    simp only [List.mem_cons, List.not_mem_nil, or_false] at hs
    rcases hs with rfl | rfl
    · exact slices_IndexFunc.meets n
    · exact tree_Names_1.meets n
  · rintro ⟨a0, a1, ⟨⟩⟩ y h
    exact (slices_DeleteFunc.ok n a0 a1).trans h
theorem slices_DeleteFunc.meets (n : Nat) : Meets Try.prog (slices_DeleteFunc.sp n) := (slices_DeleteFunc.sound n).meets
/-! backwater/tree.Names -/
abbrev tree_Names.ps : List (Ty × Bool) := [(TOp, false)]
abbrev tree_Names.r : Ty := .slX .U (.int .u32)
abbrev tree_Names.rs : List RV := [.t 2]
abbrev tree_Names.R : Type := (rtOf tree_Names.ps tree_Names.r).den
noncomputable def tree_Names.d (n : Nat) : XC :=
  (.seq (.reg (.op (.boxv 1 (.t 0)) none <| .op (.mv 2 (.c ⟨.nil 0, ()⟩)) none <| .nil)) <|
  (.seq (.reg (.op (.fa 3 1 1 1) none <| .op (.ld 4 3 1 false) none <| .op (.fa 5 1 2 2) none <| .op (.ld 6 5 1 false) none <| .op (.fa 7 1 4 4) none <| .op (.ld 8 7 1 false) none <| .op (.bsl 9 (.int .u32) [(.t 4), (.t 6), (.t 8)]) none <| .op (.call (some 10) (slices_DeleteFunc.sp n) [.k 9, .v (.c ⟨.fn 57 .unit, (() : Unit)⟩)]) none <| .op (.take 2 10) none <| .nil)) <|
  .ret))
noncomputable abbrev tree_Names.c (n : Nat) : XC := tree_Names.d n
noncomputable def tree_Names.f (n : Nat) (a0 : DOp) : Option (List Int) :=
  (slices_DeleteFunc.f n ([a0.2.1, a0.2.2.1, a0.2.2.2.2.1] : List Int) ()).bind fun r1 => some r1
theorem tree_Names.ok (n : Nat) (a0 : DOp) : evFn (tree_Names.c n) tree_Names.rs tree_Names.ps tree_Names.r (a0, ()) = tree_Names.f n a0 := by kernel_rfl
noncomputable def tree_Names.sp (n : Nat) : FSpec := { f := 43, ps := tree_Names.ps, r := tree_Names.r, run := fun x => tree_Names.f n x.1 }
theorem tree_Names.calls (n : Nat) : (tree_Names.c n).calls = [slices_DeleteFunc.sp n] := by kernel_rfl
theorem tree_Names.fits (n : Nat) : fnB tab hd Try.f43 (tree_Names.c n) tree_Names.rs (tree_Names.sp n).ps (tree_Names.sp n).r = true := by kernel_rfl
theorem tree_Names.sound (n : Nat) : Sound Try.prog (tree_Names.sp n) := by
  refine fnB_sound tabOk eqFacts mixed (fn := Try.f43) (c := tree_Names.c n) (rs := tree_Names.rs) (by kernel_rfl) ?_ (tree_Names.fits n) ?_
  · rw [tree_Names.calls]
    intro s hs
    simp only [List.mem_cons, List.not_mem_nil, or_false] at hs
    rcases hs with rfl
    · exact slices_DeleteFunc.meets n
  · rintro ⟨a0, ⟨⟩⟩ y h
    exact (tree_Names.ok n a0).trans h
theorem tree_Names.meets (n : Nat) : Meets Try.prog (tree_Names.sp n) := (tree_Names.sound n).meets
/-! slices.Index[[]backwater/api.Fid,backwater/api.Fid] -/
abbrev slices_Index.ps : List (Ty × Bool) := [(.slB .U false (.int .u32), false), (.int .u32, false)]
abbrev slices_Index.r : Ty := .int .i64
abbrev slices_Index.rs : List RV := [.t 4]
abbrev slices_Index.R : Type := (rtOf slices_Index.ps slices_Index.r).den
noncomputable def slices_Index.d1 (n : Nat) : XC :=
  (.seq (.reg (.op (.mv 4 (.c ⟨.int .i64, ((-1 : Int) : Int)⟩)) none <| .nil)) <|
  .ret)
noncomputable abbrev slices_Index.c1 (n : Nat) : XC := slices_Index.d1 n
noncomputable def slices_Index.j1 (n : Nat)  : Option Int :=
  some (-1 : Int)
theorem slices_Index.s1 (n : Nat)  : ev (slices_Index.c1 n) [] (⟨retK slices_Index.rs slices_Index.ps slices_Index.r, []⟩ : Ks slices_Index.R) (retK slices_Index.rs slices_Index.ps slices_Index.r) = slices_Index.j1 n  := by kernel_rfl
noncomputable def slices_Index.H1 (n : Nat) (X : XC) : St → Option slices_Index.R := fun st => ghK [.keep []] st fun st => ev X st (⟨retK slices_Index.rs slices_Index.ps slices_Index.r, []⟩ : Ks slices_Index.R) (retK slices_Index.rs slices_Index.ps slices_Index.r)
noncomputable abbrev slices_Index.K1 (n : Nat) : St → Option slices_Index.R := slices_Index.H1 n (slices_Index.c1 n)
noncomputable def slices_Index.Kb2 (Kr2 : St → Option slices_Index.R) : St → Option slices_Index.R := fun st => ghK [.keep [0, 1, 7, 8]] st Kr2
noncomputable def slices_Index.d3 (n : Nat) : XC :=
  (.aft (.reg (.op (.bin 18 .add (.t 8) (.c ⟨.int .i64, ((1 : Int) : Int)⟩)) none <| .op (.mv 8 (.t 18)) none <| .nil)) [.keep [0, 1, 7, 8]])
noncomputable abbrev slices_Index.c3 (n : Nat) : XC := slices_Index.d3 n
theorem slices_Index.qb2_0 (Kr2 : St → Option slices_Index.R) (kr2 : (List Int) → Int → Int → Int → Option Int) (hK2 : ∀ (x0 : List Int) (x1 : Int) (x7 : Int) (x8 : Int), Kr2 [(0, some ⟨.slB .U false (.int .u32), x0⟩), (1, some ⟨.int .u32, x1⟩), (7, some ⟨.int .i64, x7⟩), (8, some ⟨.int .i64, x8⟩)] = kr2 x0 x1 x7 x8) (x0 : List Int) (x1 : Int) (x7 : Int) (x8 : Int) : slices_Index.Kb2 Kr2 [(0, some ⟨.slB .U false (.int .u32), x0⟩), (1, some ⟨.int .u32, x1⟩), (7, some ⟨.int .i64, x7⟩), (8, some ⟨.int .i64, x8⟩)] = kr2 x0 x1 x7 x8 := (by kernel_rfl : _ = Kr2 [(0, some ⟨.slB .U false (.int .u32), x0⟩), (1, some ⟨.int .u32, x1⟩), (7, some ⟨.int .i64, x7⟩), (8, some ⟨.int .i64, x8⟩)]).trans (hK2 x0 x1 x7 x8)
noncomputable def slices_Index.j3 (n : Nat) (kr2 : (List Int) → Int → Int → Int → Option Int) (x0 : List Int) (x1 : Int) (x7 : Int) (x8 : Int) : Option Int :=
  kr2 x0 x1 x7 (IntKind.i64.wrap (x8 + (1 : Int)))
theorem slices_Index.w3 (n : Nat) (Kr2 : St → Option slices_Index.R) (x0 : List Int) (x1 : Int) (x7 : Int) (x8 : Int) (K1 : St → Option slices_Index.R) (Kb2 : St → Option slices_Index.R) : ev (slices_Index.d3 n) [(0, some ⟨.slB .U false (.int .u32), x0⟩), (1, some ⟨.int .u32, x1⟩), (7, some ⟨.int .i64, x7⟩), (8, some ⟨.int .i64, x8⟩)] (⟨retK slices_Index.rs slices_Index.ps slices_Index.r, [(0, K1)]⟩ : Ks slices_Index.R) Kb2 =
  (Kb2 [(0, some ⟨.slB .U false (.int .u32), x0⟩), (1, some ⟨.int .u32, x1⟩), (7, some ⟨.int .i64, x7⟩), (8, some ⟨.int .i64, (IntKind.i64.wrap (x8 + (1 : Int)))⟩)] : Option slices_Index.R) := by kernel_rfl
theorem slices_Index.s3 (n : Nat) (Kr2 : St → Option slices_Index.R) (kr2 : (List Int) → Int → Int → Int → Option Int) (hK2 : ∀ (x0 : List Int) (x1 : Int) (x7 : Int) (x8 : Int), Kr2 [(0, some ⟨.slB .U false (.int .u32), x0⟩), (1, some ⟨.int .u32, x1⟩), (7, some ⟨.int .i64, x7⟩), (8, some ⟨.int .i64, x8⟩)] = kr2 x0 x1 x7 x8) (x0 : List Int) (x1 : Int) (x7 : Int) (x8 : Int) : ev (slices_Index.c3 n) [(0, some ⟨.slB .U false (.int .u32), x0⟩), (1, some ⟨.int .u32, x1⟩), (7, some ⟨.int .i64, x7⟩), (8, some ⟨.int .i64, x8⟩)] (⟨retK slices_Index.rs slices_Index.ps slices_Index.r, [(0, (slices_Index.K1 n))]⟩ : Ks slices_Index.R) (slices_Index.Kb2 Kr2) = slices_Index.j3 n kr2 x0 x1 x7 x8 := (slices_Index.w3 n Kr2 x0 x1 x7 x8 (slices_Index.K1 n) (slices_Index.Kb2 Kr2)).trans (by simp -implicitDefEqProofs only [slices_Index.j3, slices_Index.qb2_0 Kr2 kr2 hK2] <;> kernel_rfl)
noncomputable def slices_Index.H3 (n : Nat) (K1 : St → Option slices_Index.R) (Kb2 : St → Option slices_Index.R) (X : XC) : St → Option slices_Index.R := fun st => ghK [.keep [0, 1, 7, 8]] st fun st => ev X st (⟨retK slices_Index.rs slices_Index.ps slices_Index.r, [(0, K1)]⟩ : Ks slices_Index.R) Kb2
noncomputable abbrev slices_Index.K3 (n : Nat) (Kr2 : St → Option slices_Index.R) : St → Option slices_Index.R := slices_Index.H3 n (slices_Index.K1 n) (slices_Index.Kb2 Kr2) (slices_Index.c3 n)
noncomputable def slices_Index.db2 (n : Nat) (X3 : XC) : XC :=
  (.aft (.seq (.reg (.op (.bin 9 .lss (.t 8) (.t 7)) none <| .nil)) <|
  (.seq (.cond (.t 9)
  .skip
  (.pre [.keep []] (.exit 0))) <|
  (.seq (.aft (.block 1 (.seq (.reg (.op (.mv 10 (.t 8)) none <| .op (.mv 5 (.t 10)) none <| .nil)) <|
  (.seq (.reg (.op (.mv 11 (.t 1)) none <| .op (.mv 12 (.t 0)) none <| .op (.mv 13 (.t 5)) none <| .op (.idxA 14 (.t 12) (.t 13) 1 0) none <| .op (.ld 15 14 1 false) none <| .op (.bin 16 .eql (.t 11) (.t 15)) none <| .nil)) <|
  (.cond (.t 16)
  (.seq (.pre [.keep [5]] (.reg (.op (.mv 17 (.t 5)) none <| .op (.mv 4 (.t 17)) none <| .nil))) <|
  .ret)
  .skip)))) [.keep [0, 1, 7, 8]]) X3))) [.keep [0, 1, 7, 8]])
noncomputable abbrev slices_Index.cb2 (n : Nat) : XC := slices_Index.db2 n (slices_Index.c3 n)
theorem slices_Index.q1_0_r (n : Nat) (X : XC)  : slices_Index.H1 n X [] = (ev X [] (⟨retK slices_Index.rs slices_Index.ps slices_Index.r, []⟩ : Ks slices_Index.R) (retK slices_Index.rs slices_Index.ps slices_Index.r) : Option slices_Index.R) := by kernel_rfl
theorem slices_Index.q1_0 (n : Nat)  : slices_Index.K1 n [] = slices_Index.j1 n  := (slices_Index.q1_0_r n (slices_Index.c1 n) ).trans (slices_Index.s1 n )
noncomputable def slices_Index.l2 (n : Nat) : Nat → (List Int) → Int → Int → Int → Option Int
  | 0, _, _, _, _ => none
  | k + 1, x0, x1, x7, x8 =>
  bif (decide (x8 < x7)) then (idxK x0 x8 fun e1 => bif (decide (x1 = e1)) then (some x8)
  else (slices_Index.j3 n (slices_Index.l2 n k) x0 x1 x7 x8))
  else (slices_Index.j1 n )
theorem slices_Index.wb2 (n : Nat) (Kr2 : St → Option slices_Index.R) (x0 : List Int) (x1 : Int) (x7 : Int) (x8 : Int) (K1 : St → Option slices_Index.R) (X3 : XC) : ev (slices_Index.db2 n X3) (keepSt [(0, some ⟨.slB .U false (.int .u32), x0⟩), (1, some ⟨.int .u32, x1⟩), (7, some ⟨.int .i64, x7⟩), (8, some ⟨.int .i64, x8⟩)] [0, 1, 7, 8]) (⟨retK slices_Index.rs slices_Index.ps slices_Index.r, [(0, K1)]⟩ : Ks slices_Index.R) Kr2 =
  (bif (decide (x8 < x7)) then (idxK x0 x8 fun e1 => bif (decide (x1 = e1)) then (some x8)
  else (ev X3 [(0, some ⟨.slB .U false (.int .u32), x0⟩), (1, some ⟨.int .u32, x1⟩), (7, some ⟨.int .i64, x7⟩), (8, some ⟨.int .i64, x8⟩)] (⟨retK slices_Index.rs slices_Index.ps slices_Index.r, [(0, K1)]⟩ : Ks slices_Index.R) (slices_Index.Kb2 Kr2)))
  else (K1 []) : Option slices_Index.R) := by kernel_rfl
theorem slices_Index.l2_ok (n : Nat) (k : Nat) : ∀ (x0 : List Int) (x1 : Int) (x7 : Int) (x8 : Int), loopEv [0, 1, 7, 8] (fun s K => ev (slices_Index.cb2 n) s (⟨retK slices_Index.rs slices_Index.ps slices_Index.r, [(0, (slices_Index.K1 n))]⟩ : Ks slices_Index.R) K) k [(0, some ⟨.slB .U false (.int .u32), x0⟩), (1, some ⟨.int .u32, x1⟩), (7, some ⟨.int .i64, x7⟩), (8, some ⟨.int .i64, x8⟩)] = slices_Index.l2 n k x0 x1 x7 x8 := by
  induction k with
  | zero => intros; rfl
  | succ k ih =>
    intro x0 x1 x7 x8
    exact (slices_Index.wb2 n (fun st => loopEv [0, 1, 7, 8] (fun s K => ev (slices_Index.cb2 n) s (⟨retK slices_Index.rs slices_Index.ps slices_Index.r, [(0, (slices_Index.K1 n))]⟩ : Ks slices_Index.R) K) k st) x0 x1 x7 x8 (slices_Index.K1 n) (slices_Index.c3 n)).trans (by simp -implicitDefEqProofs only [slices_Index.l2, slices_Index.s3 n (fun st => loopEv [0, 1, 7, 8] (fun s K => ev (slices_Index.cb2 n) s (⟨retK slices_Index.rs slices_Index.ps slices_Index.r, [(0, (slices_Index.K1 n))]⟩ : Ks slices_Index.R) K) k st) (slices_Index.l2 n k) ih, slices_Index.q1_0 n] <;> kernel_rfl)
noncomputable def slices_Index.d (n : Nat) (X1 Y2 : XC) : XC :=
  (.seq (.reg (.op (.mv 4 (.c ⟨.int .i64, ((0 : Int) : Int)⟩)) none <| .nil)) <|
  (.seq (.aft (.seq (.reg (.op (.mv 6 (.t 0)) none <| .op (.len 7 (.t 6) false) none <| .op (.mv 8 (.c ⟨.int .i64, ((0 : Int) : Int)⟩)) none <| .nil)) <|
  (.block 0 (.pre [.keep [0, 1, 7, 8]] (.loop n [0, 1, 7, 8] Y2)))) [.keep []]) X1))
noncomputable abbrev slices_Index.c (n : Nat) : XC := slices_Index.d n (slices_Index.c1 n) (slices_Index.cb2 n)
noncomputable def slices_Index.f (n : Nat) (a0 : List Int) (a1 : Int) : Option Int :=
  slices_Index.l2 n n a0 a1 (a0.length : Int) (0 : Int)
theorem slices_Index.w (n : Nat) (a0 : List Int) (a1 : Int) (X1 Y2 : XC) : evFn (slices_Index.d n X1 Y2) slices_Index.rs slices_Index.ps slices_Index.r (a0, a1, ()) =
  (loopEv [0, 1, 7, 8] (fun s K => ev Y2 s (⟨retK slices_Index.rs slices_Index.ps slices_Index.r, [(0, (slices_Index.H1 n X1))]⟩ : Ks slices_Index.R) K) n [(0, some ⟨.slB .U false (.int .u32), a0⟩), (1, some ⟨.int .u32, a1⟩), (7, some ⟨.int .i64, (a0.length : Int)⟩), (8, some ⟨.int .i64, (0 : Int)⟩)] : Option slices_Index.R) := by kernel_rfl
theorem slices_Index.ok (n : Nat) (a0 : List Int) (a1 : Int) : evFn (slices_Index.c n) slices_Index.rs slices_Index.ps slices_Index.r (a0, a1, ()) = slices_Index.f n a0 a1 := (slices_Index.w n a0 a1 (slices_Index.c1 n) (slices_Index.cb2 n)).trans (by simp -implicitDefEqProofs only [slices_Index.f, slices_Index.l2_ok n] <;> kernel_rfl)
noncomputable def slices_Index.sp (n : Nat) : FSpec := { f := 55, ps := slices_Index.ps, r := slices_Index.r, run := fun x => slices_Index.f n x.1 x.2.1 }
theorem slices_Index.calls (n : Nat) : (slices_Index.c n).calls = [] := by kernel_rfl
theorem slices_Index.fits (n : Nat) : fnB tab hd Try.f55 (slices_Index.c n) slices_Index.rs (slices_Index.sp n).ps (slices_Index.sp n).r = true := by kernel_rfl
theorem slices_Index.sound (n : Nat) : Sound Try.prog (slices_Index.sp n) := by
  refine fnB_sound tabOk eqFacts mixed (fn := Try.f55) (c := slices_Index.c n) (rs := slices_Index.rs) (by kernel_rfl) ?_ (slices_Index.fits n) ?_
  · rw [slices_Index.calls]
    intro s hs; cases hs
  · rintro ⟨a0, a1, ⟨⟩⟩ y h
    exact (slices_Index.ok n a0 a1).trans h
theorem slices_Index.meets (n : Nat) : Meets Try.prog (slices_Index.sp n) := (slices_Index.sound n).meets
/-! slices.Contains[[]backwater/api.Fid,backwater/api.Fid] -/
abbrev slices_Contains.ps : List (Ty × Bool) := [(.slB .U false (.int .u32), false), (.int .u32, false)]
abbrev slices_Contains.r : Ty := .bool
abbrev slices_Contains.rs : List RV := [.t 4]
abbrev slices_Contains.R : Type := (rtOf slices_Contains.ps slices_Contains.r).den
noncomputable def slices_Contains.d (n : Nat) : XC :=
  (.seq (.reg (.op (.mv 4 (.c ⟨.bool, (false : Bool)⟩)) none <| .nil)) <|
  (.seq (.reg (.op (.mv 5 (.t 0)) none <| .op (.mv 6 (.t 1)) none <| .op (.call (some 7) (slices_Index.sp n) [.v (.t 5), .v (.t 6)]) none <| .op (.bin 8 .geq (.t 7) (.c ⟨.int .i64, ((0 : Int) : Int)⟩)) none <| .op (.mv 4 (.t 8)) none <| .nil)) <|
  .ret))
noncomputable abbrev slices_Contains.c (n : Nat) : XC := slices_Contains.d n
noncomputable def slices_Contains.f (n : Nat) (a0 : List Int) (a1 : Int) : Option Bool :=
  (slices_Index.f n a0 a1).bind fun r1 => some (decide ((0 : Int) ≤ r1))
theorem slices_Contains.ok (n : Nat) (a0 : List Int) (a1 : Int) : evFn (slices_Contains.c n) slices_Contains.rs slices_Contains.ps slices_Contains.r (a0, a1, ()) = slices_Contains.f n a0 a1 := by kernel_rfl
noncomputable def slices_Contains.sp (n : Nat) : FSpec := { f := 42, ps := slices_Contains.ps, r := slices_Contains.r, run := fun x => slices_Contains.f n x.1 x.2.1 }
theorem slices_Contains.calls (n : Nat) : (slices_Contains.c n).calls = [slices_Index.sp n] := by kernel_rfl
theorem slices_Contains.fits (n : Nat) : fnB tab hd Try.f42 (slices_Contains.c n) slices_Contains.rs (slices_Contains.sp n).ps (slices_Contains.sp n).r = true := by kernel_rfl
theorem slices_Contains.sound (n : Nat) : Sound Try.prog (slices_Contains.sp n) := by
  refine fnB_sound tabOk eqFacts mixed (fn := Try.f42) (c := slices_Contains.c n) (rs := slices_Contains.rs) (by kernel_rfl) ?_ (slices_Contains.fits n) ?_
  · rw [slices_Contains.calls]
    intro s hs
    simp only [List.mem_cons, List.not_mem_nil, or_false] at hs
    rcases hs with rfl
    · exact slices_Index.meets n
  · rintro ⟨a0, a1, ⟨⟩⟩ y h
    exact (slices_Contains.ok n a0 a1).trans h
theorem slices_Contains.meets (n : Nat) : Meets Try.prog (slices_Contains.sp n) := (slices_Contains.sound n).meets
/-! backwater/cml.Touches -/
abbrev cml_Touches.ps : List (Ty × Bool) := [(TRecord, false), (.int .u32, false)]
abbrev cml_Touches.r : Ty := .bool
abbrev cml_Touches.rs : List RV := [.t 4]
abbrev cml_Touches.R : Type := (rtOf cml_Touches.ps cml_Touches.r).den
noncomputable def cml_Touches.d (n : Nat) : XC :=
  (.seq (.reg (.op (.boxv 2 (.t 0)) none <| .op (.mv 4 (.c ⟨.bool, (false : Bool)⟩)) none <| .nil)) <|
  (.seq (.reg (.op (.fa 5 2 0 0) none <| .op (.ld 6 5 8 true) none <| .op (.call (some 7) (tree_Names.sp n) [.v (.t 6)]) none <| .op (.mv 8 (.t 1)) none <| .op (.call (some 9) (slices_Contains.sp n) [.v (.t 7), .v (.t 8)]) none <| .op (.mv 4 (.t 9)) none <| .nil)) <|
  .ret))
noncomputable abbrev cml_Touches.c (n : Nat) : XC := cml_Touches.d n
noncomputable def cml_Touches.f (n : Nat) (a0 : DRecord) (a1 : Int) : Option Bool :=
  (tree_Names.f n (a0.1.1, a0.1.2.1, a0.1.2.2.1, a0.1.2.2.2.1, a0.1.2.2.2.2.1, a0.1.2.2.2.2.2.1, a0.1.2.2.2.2.2.2.1, a0.1.2.2.2.2.2.2.2.1, a0.1.2.2.2.2.2.2.2.2)).bind fun r1 => (slices_Contains.f n r1 a1).bind fun r2 => some r2
theorem cml_Touches.ok (n : Nat) (a0 : DRecord) (a1 : Int) : evFn (cml_Touches.c n) cml_Touches.rs cml_Touches.ps cml_Touches.r (a0, a1, ()) = cml_Touches.f n a0 a1 := by kernel_rfl
noncomputable def cml_Touches.sp (n : Nat) : FSpec := { f := 26, ps := cml_Touches.ps, r := cml_Touches.r, run := fun x => cml_Touches.f n x.1 x.2.1 }
theorem cml_Touches.calls (n : Nat) : (cml_Touches.c n).calls = [tree_Names.sp n, slices_Contains.sp n] := by kernel_rfl
theorem cml_Touches.fits (n : Nat) : fnB tab hd Try.f26 (cml_Touches.c n) cml_Touches.rs (cml_Touches.sp n).ps (cml_Touches.sp n).r = true := by kernel_rfl
theorem cml_Touches.sound (n : Nat) : Sound Try.prog (cml_Touches.sp n) := by
  refine fnB_sound tabOk eqFacts mixed (fn := Try.f26) (c := cml_Touches.c n) (rs := cml_Touches.rs) (by kernel_rfl) ?_ (cml_Touches.fits n) ?_
  · rw [cml_Touches.calls]
    intro s hs
    simp only [List.mem_cons, List.not_mem_nil, or_false] at hs
    rcases hs with rfl | rfl
    · exact tree_Names.meets n
    · exact slices_Contains.meets n
  · rintro ⟨a0, a1, ⟨⟩⟩ y h
    exact (cml_Touches.ok n a0 a1).trans h
theorem cml_Touches.meets (n : Nat) : Meets Try.prog (cml_Touches.sp n) := (cml_Touches.sound n).meets
/-! backwater/cml.names -/
abbrev cml_names.ps : List (Ty × Bool) := [(TRecord, false), (.int .u32, false), (.str, false)]
abbrev cml_names.r : Ty := .bool
abbrev cml_names.rs : List RV := [.t 6]
abbrev cml_names.R : Type := (rtOf cml_names.ps cml_names.r).den
noncomputable def cml_names.d (n : Nat) : XC :=
  (.seq (.reg (.op (.boxv 3 (.t 0)) none <| .op (.mv 6 (.c ⟨.bool, (false : Bool)⟩)) none <| .nil)) <|
  (.seq (.reg (.op (.fa 8 3 0 0) none <| .op (.ld 9 8 8 true) none <| .op (.alloc 7 ⟨TOp, (((0 : Int), (0 : Int), (0 : Int), ([] : List Int), (0 : Int), ([] : List Int), (0 : Int), ([] : List Int), ()) : DOp)⟩) none <| .op (.st 7 (.t 9) 8) none <| .nil)) <|
  (.seq (.reg (.op (.fa 10 7 2 2) none <| .op (.ld 11 10 1 false) none <| .op (.mv 12 (.t 1)) none <| .op (.bin 13 .eql (.t 11) (.t 12)) none <| .op (.mv 14 (.t 13)) none <| .grp 14 true (.op (.fa 15 7 3 3) (some ([7, 14, 15], [15])) <| .op (.ld 16 15 1 false) (some ([7, 14, 15, 16], [16])) <| .op (.mv 17 (.t 2)) (some ([2, 14, 17], [17])) <| .op (.bin 18 .eql (.t 16) (.t 17)) (some ([14, 16, 17, 18], [18])) <| .nil) 18 19 [15, 16, 17, 18] <| .op (.mv 20 (.t 19)) none <| .grp 20 false (.op (.fa 21 7 4 4) (some ([7, 20, 21], [21])) <| .op (.ld 22 21 1 false) (some ([7, 20, 21, 22], [22])) <| .op (.mv 23 (.t 1)) (some ([1, 20, 23], [23])) <| .op (.bin 24 .eql (.t 22) (.t 23)) (some ([20, 22, 23, 24], [24])) <| .op (.mv 25 (.t 24)) (some ([20, 24, 25], [25])) <| .grp 25 true (.op (.fa 26 7 5 5) (some ([7, 25, 26], [26])) <| .op (.ld 27 26 1 false) (some ([7, 25, 26, 27], [27])) <| .op (.mv 28 (.t 2)) (some ([2, 25, 28], [28])) <| .op (.bin 29 .eql (.t 27) (.t 28)) (some ([25, 27, 28, 29], [29])) <| .nil) 29 30 [26, 27, 28, 29] <| .nil) 30 31 [21, 22, 23, 24, 25, 26, 27, 28, 29, 30] <| .op (.mv 6 (.t 31)) none <| .nil)) <|
  .ret)))
noncomputable abbrev cml_names.c (n : Nat) : XC := cml_names.d n
noncomputable def cml_names.f (n : Nat) (a0 : DRecord) (a1 : Int) (a2 : List Int) : Option Bool :=
  (bif (decide (a0.1.2.2.1 = a1)) then (some (decide (a0.1.2.2.2.1 = a2))) else some false).bind fun g1 =>
  (bif g1 then some true else ((bif (decide (a0.1.2.2.2.2.1 = a1)) then (some (decide (a0.1.2.2.2.2.2.1 = a2))) else some false).bind fun g3 =>
  some g3)).bind fun g2 =>
  some g2
theorem cml_names.ok (n : Nat) (a0 : DRecord) (a1 : Int) (a2 : List Int) : evFn (cml_names.c n) cml_names.rs cml_names.ps cml_names.r (a0, a1, a2, ()) = cml_names.f n a0 a1 a2 := by kernel_rfl
noncomputable def cml_names.sp (n : Nat) : FSpec := { f := 46, ps := cml_names.ps, r := cml_names.r, run := fun x => cml_names.f n x.1 x.2.1 x.2.2.1 }
theorem cml_names.calls (n : Nat) : (cml_names.c n).calls = [] := by kernel_rfl
theorem cml_names.fits (n : Nat) : fnB tab hd Try.f46 (cml_names.c n) cml_names.rs (cml_names.sp n).ps (cml_names.sp n).r = true := by kernel_rfl
theorem cml_names.sound (n : Nat) : Sound Try.prog (cml_names.sp n) := by
  refine fnB_sound tabOk eqFacts mixed (fn := Try.f46) (c := cml_names.c n) (rs := cml_names.rs) (by kernel_rfl) ?_ (cml_names.fits n) ?_
  · rw [cml_names.calls]
    intro s hs; cases hs
  · rintro ⟨a0, a1, a2, ⟨⟩⟩ y h
    exact (cml_names.ok n a0 a1 a2).trans h
theorem cml_names.meets (n : Nat) : Meets Try.prog (cml_names.sp n) := (cml_names.sound n).meets
/-! backwater/cml.pair -/
abbrev cml_pair.ps : List (Ty × Bool) := [(.slB .U false TRecord, false)]
abbrev cml_pair.r : Ty := .tup (.pair (.int .i64) (.pair (.int .i64) (.pair .bool .unit)))
abbrev cml_pair.rs : List RV := [.t 2, .t 3, .t 4]
abbrev cml_pair.R : Type := (rtOf cml_pair.ps cml_pair.r).den
noncomputable def cml_pair.d1 (n : Nat) : XC :=
  (.seq (.reg (.op (.mv 2 (.c ⟨.int .i64, ((0 : Int) : Int)⟩)) none <| .op (.mv 3 (.c ⟨.int .i64, ((0 : Int) : Int)⟩)) none <| .op (.mv 4 (.c ⟨.bool, (false : Bool)⟩)) none <| .nil)) <|
  .ret)
noncomputable abbrev cml_pair.c1 (n : Nat) : XC := cml_pair.d1 n
noncomputable def cml_pair.j1 (n : Nat)  : Option (Int × Int × Bool × Unit) :=
  some ((0 : Int), (0 : Int), false, ())
theorem cml_pair.s1 (n : Nat)  : ev (cml_pair.c1 n) [] (⟨retK cml_pair.rs cml_pair.ps cml_pair.r, []⟩ : Ks cml_pair.R) (retK cml_pair.rs cml_pair.ps cml_pair.r) = cml_pair.j1 n  := by kernel_rfl
noncomputable def cml_pair.H1 (n : Nat) (X : XC) : St → Option cml_pair.R := fun st => ghK [.keep []] st fun st => ev X st (⟨retK cml_pair.rs cml_pair.ps cml_pair.r, []⟩ : Ks cml_pair.R) (retK cml_pair.rs cml_pair.ps cml_pair.r)
noncomputable abbrev cml_pair.K1 (n : Nat) : St → Option cml_pair.R := cml_pair.H1 n (cml_pair.c1 n)
noncomputable def cml_pair.Kb2 (Kr2 : St → Option cml_pair.R) : St → Option cml_pair.R := fun st => ghK [.keep [0, 13, 14]] st Kr2
noncomputable def cml_pair.d3 (n : Nat) : XC :=
  (.aft (.reg (.op (.bin 97 .add (.t 14) (.c ⟨.int .i64, ((1 : Int) : Int)⟩)) none <| .op (.mv 14 (.t 97)) none <| .nil)) [.keep [0, 13, 14]])
noncomputable abbrev cml_pair.c3 (n : Nat) : XC := cml_pair.d3 n
theorem cml_pair.qb2_0 (Kr2 : St → Option cml_pair.R) (kr2 : (List DRecord) → Int → Int → Option (Int × Int × Bool × Unit)) (hK2 : ∀ (x0 : List DRecord) (x13 : Int) (x14 : Int), Kr2 [(0, some ⟨.slB .U false TRecord, x0⟩), (13, some ⟨.int .i64, x13⟩), (14, some ⟨.int .i64, x14⟩)] = kr2 x0 x13 x14) (x0 : List DRecord) (x13 : Int) (x14 : Int) : cml_pair.Kb2 Kr2 [(0, some ⟨.slB .U false TRecord, x0⟩), (13, some ⟨.int .i64, x13⟩), (14, some ⟨.int .i64, x14⟩)] = kr2 x0 x13 x14 := (by kernel_rfl : _ = Kr2 [(0, some ⟨.slB .U false TRecord, x0⟩), (13, some ⟨.int .i64, x13⟩), (14, some ⟨.int .i64, x14⟩)]).trans (hK2 x0 x13 x14)
noncomputable def cml_pair.j3 (n : Nat) (kr2 : (List DRecord) → Int → Int → Option (Int × Int × Bool × Unit)) (x0 : List DRecord) (x13 : Int) (x14 : Int) : Option (Int × Int × Bool × Unit) :=
  kr2 x0 x13 (IntKind.i64.wrap (x14 + (1 : Int)))
theorem cml_pair.w3 (n : Nat) (Kr2 : St → Option cml_pair.R) (x0 : List DRecord) (x13 : Int) (x14 : Int) (K1 : St → Option cml_pair.R) (Kb2 : St → Option cml_pair.R) : ev (cml_pair.d3 n) [(0, some ⟨.slB .U false TRecord, x0⟩), (13, some ⟨.int .i64, x13⟩), (14, some ⟨.int .i64, x14⟩)] (⟨retK cml_pair.rs cml_pair.ps cml_pair.r, [(0, K1)]⟩ : Ks cml_pair.R) Kb2 =
  (Kb2 [(0, some ⟨.slB .U false TRecord, x0⟩), (13, some ⟨.int .i64, x13⟩), (14, some ⟨.int .i64, (IntKind.i64.wrap (x14 + (1 : Int)))⟩)] : Option cml_pair.R) := by kernel_rfl
theorem cml_pair.s3 (n : Nat) (Kr2 : St → Option cml_pair.R) (kr2 : (List DRecord) → Int → Int → Option (Int × Int × Bool × Unit)) (hK2 : ∀ (x0 : List DRecord) (x13 : Int) (x14 : Int), Kr2 [(0, some ⟨.slB .U false TRecord, x0⟩), (13, some ⟨.int .i64, x13⟩), (14, some ⟨.int .i64, x14⟩)] = kr2 x0 x13 x14) (x0 : List DRecord) (x13 : Int) (x14 : Int) : ev (cml_pair.c3 n) [(0, some ⟨.slB .U false TRecord, x0⟩), (13, some ⟨.int .i64, x13⟩), (14, some ⟨.int .i64, x14⟩)] (⟨retK cml_pair.rs cml_pair.ps cml_pair.r, [(0, (cml_pair.K1 n))]⟩ : Ks cml_pair.R) (cml_pair.Kb2 Kr2) = cml_pair.j3 n kr2 x0 x13 x14 := (cml_pair.w3 n Kr2 x0 x13 x14 (cml_pair.K1 n) (cml_pair.Kb2 Kr2)).trans (by simp -implicitDefEqProofs only [cml_pair.j3, cml_pair.qb2_0 Kr2 kr2 hK2] <;> kernel_rfl)
noncomputable def cml_pair.H3 (n : Nat) (K1 : St → Option cml_pair.R) (Kb2 : St → Option cml_pair.R) (X : XC) : St → Option cml_pair.R := fun st => ghK [.keep [0, 13, 14]] st fun st => ev X st (⟨retK cml_pair.rs cml_pair.ps cml_pair.r, [(0, K1)]⟩ : Ks cml_pair.R) Kb2
noncomputable abbrev cml_pair.K3 (n : Nat) (Kr2 : St → Option cml_pair.R) : St → Option cml_pair.R := cml_pair.H3 n (cml_pair.K1 n) (cml_pair.Kb2 Kr2) (cml_pair.c3 n)
noncomputable def cml_pair.Kb4 (Kr4 : St → Option cml_pair.R) : St → Option cml_pair.R := fun st => ghK [.keep [0, 5, 6, 7, 8, 13, 14]] st Kr4
noncomputable def cml_pair.d5 (n : Nat) : XC :=
  (.aft (.reg (.op (.mv 33 (.t 8)) none <| .op (.bin 34 .add (.t 33) (.c ⟨.int .i64, ((1 : Int) : Int)⟩)) none <| .op (.mv 8 (.t 34)) none <| .nil)) [.keep [0, 5, 6, 7, 8, 13, 14]])
noncomputable abbrev cml_pair.c5 (n : Nat) : XC := cml_pair.d5 n
theorem cml_pair.qb4_0 (Kr4 : St → Option cml_pair.R) (kr4 : (List DRecord) → Int → DOp → Int → Int → Int → Int → Option (Int × Int × Bool × Unit)) (hK4 : ∀ (x0 : List DRecord) (x5 : Int) (x6 : DOp) (x7 : Int) (x8 : Int) (x13 : Int) (x14 : Int), Kr4 [(0, some ⟨.slB .U false TRecord, x0⟩), (5, some ⟨.int .i64, x5⟩), (6, some ⟨.box TOp, x6⟩), (7, some ⟨.int .u8, x7⟩), (8, some ⟨.int .i64, x8⟩), (13, some ⟨.int .i64, x13⟩), (14, some ⟨.int .i64, x14⟩)] = kr4 x0 x5 x6 x7 x8 x13 x14) (x0 : List DRecord) (x5 : Int) (x6 : DOp) (x7 : Int) (x8 : Int) (x13 : Int) (x14 : Int) : cml_pair.Kb4 Kr4 [(0, some ⟨.slB .U false TRecord, x0⟩), (5, some ⟨.int .i64, x5⟩), (6, some ⟨.box TOp, x6⟩), (7, some ⟨.int .u8, x7⟩), (8, some ⟨.int .i64, x8⟩), (13, some ⟨.int .i64, x13⟩), (14, some ⟨.int .i64, x14⟩)] = kr4 x0 x5 (x6.1, x6.2.1, x6.2.2.1, x6.2.2.2.1, x6.2.2.2.2.1, x6.2.2.2.2.2.1, x6.2.2.2.2.2.2.1, x6.2.2.2.2.2.2.2.1, x6.2.2.2.2.2.2.2.2) x7 x8 x13 x14 := (by kernel_rfl : _ = Kr4 [(0, some ⟨.slB .U false TRecord, x0⟩), (5, some ⟨.int .i64, x5⟩), (6, some ⟨.box TOp, ((x6.1, x6.2.1, x6.2.2.1, x6.2.2.2.1, x6.2.2.2.2.1, x6.2.2.2.2.2.1, x6.2.2.2.2.2.2.1, x6.2.2.2.2.2.2.2.1, x6.2.2.2.2.2.2.2.2) : DOp)⟩), (7, some ⟨.int .u8, x7⟩), (8, some ⟨.int .i64, x8⟩), (13, some ⟨.int .i64, x13⟩), (14, some ⟨.int .i64, x14⟩)]).trans (hK4 x0 x5 (x6.1, x6.2.1, x6.2.2.1, x6.2.2.2.1, x6.2.2.2.2.1, x6.2.2.2.2.2.1, x6.2.2.2.2.2.2.1, x6.2.2.2.2.2.2.2.1, x6.2.2.2.2.2.2.2.2) x7 x8 x13 x14)
noncomputable def cml_pair.j5 (n : Nat) (kr2 : (List DRecord) → Int → Int → Option (Int × Int × Bool × Unit)) (kr4 : (List DRecord) → Int → DOp → Int → Int → Int → Int → Option (Int × Int × Bool × Unit)) (x0 : List DRecord) (x5 : Int) (x6 : DOp) (x7 : Int) (x8 : Int) (x13 : Int) (x14 : Int) : Option (Int × Int × Bool × Unit) :=
  kr4 x0 x5 (x6.1, x6.2.1, x6.2.2.1, x6.2.2.2.1, x6.2.2.2.2.1, x6.2.2.2.2.2.1, x6.2.2.2.2.2.2.1, x6.2.2.2.2.2.2.2.1, x6.2.2.2.2.2.2.2.2) x7 (IntKind.i64.wrap (x8 + (1 : Int))) x13 x14
theorem cml_pair.w5 (n : Nat) (Kr2 : St → Option cml_pair.R) (Kr4 : St → Option cml_pair.R) (x0 : List DRecord) (x5 : Int) (x6 : DOp) (x7 : Int) (x8 : Int) (x13 : Int) (x14 : Int) (K3 : St → Option cml_pair.R) (K1 : St → Option cml_pair.R) (Kb4 : St → Option cml_pair.R) : ev (cml_pair.d5 n) [(0, some ⟨.slB .U false TRecord, x0⟩), (5, some ⟨.int .i64, x5⟩), (6, some ⟨.box TOp, x6⟩), (7, some ⟨.int .u8, x7⟩), (8, some ⟨.int .i64, x8⟩), (13, some ⟨.int .i64, x13⟩), (14, some ⟨.int .i64, x14⟩)] (⟨retK cml_pair.rs cml_pair.ps cml_pair.r, [(2, K3), (1, K3), (0, K1)]⟩ : Ks cml_pair.R) Kb4 =
  (Kb4 [(0, some ⟨.slB .U false TRecord, x0⟩), (5, some ⟨.int .i64, x5⟩), (6, some ⟨.box TOp, x6⟩), (7, some ⟨.int .u8, x7⟩), (8, some ⟨.int .i64, (IntKind.i64.wrap (x8 + (1 : Int)))⟩), (13, some ⟨.int .i64, x13⟩), (14, some ⟨.int .i64, x14⟩)] : Option cml_pair.R) := by kernel_rfl
theorem cml_pair.s5 (n : Nat) (Kr2 : St → Option cml_pair.R) (Kr4 : St → Option cml_pair.R) (kr2 : (List DRecord) → Int → Int → Option (Int × Int × Bool × Unit)) (kr4 : (List DRecord) → Int → DOp → Int → Int → Int → Int → Option (Int × Int × Bool × Unit)) (hK2 : ∀ (x0 : List DRecord) (x13 : Int) (x14 : Int), Kr2 [(0, some ⟨.slB .U false TRecord, x0⟩), (13, some ⟨.int .i64, x13⟩), (14, some ⟨.int .i64, x14⟩)] = kr2 x0 x13 x14) (hK4 : ∀ (x0 : List DRecord) (x5 : Int) (x6 : DOp) (x7 : Int) (x8 : Int) (x13 : Int) (x14 : Int), Kr4 [(0, some ⟨.slB .U false TRecord, x0⟩), (5, some ⟨.int .i64, x5⟩), (6, some ⟨.box TOp, x6⟩), (7, some ⟨.int .u8, x7⟩), (8, some ⟨.int .i64, x8⟩), (13, some ⟨.int .i64, x13⟩), (14, some ⟨.int .i64, x14⟩)] = kr4 x0 x5 x6 x7 x8 x13 x14) (x0 : List DRecord) (x5 : Int) (x6 : DOp) (x7 : Int) (x8 : Int) (x13 : Int) (x14 : Int) : ev (cml_pair.c5 n) [(0, some ⟨.slB .U false TRecord, x0⟩), (5, some ⟨.int .i64, x5⟩), (6, some ⟨.box TOp, x6⟩), (7, some ⟨.int .u8, x7⟩), (8, some ⟨.int .i64, x8⟩), (13, some ⟨.int .i64, x13⟩), (14, some ⟨.int .i64, x14⟩)] (⟨retK cml_pair.rs cml_pair.ps cml_pair.r, [(2, (cml_pair.K3 n Kr2)), (1, (cml_pair.K3 n Kr2)), (0, (cml_pair.K1 n))]⟩ : Ks cml_pair.R) (cml_pair.Kb4 Kr4) = cml_pair.j5 n kr2 kr4 x0 x5 x6 x7 x8 x13 x14 := (cml_pair.w5 n Kr2 Kr4 x0 x5 x6 x7 x8 x13 x14 (cml_pair.K3 n Kr2) (cml_pair.K1 n) (cml_pair.Kb4 Kr4)).trans (by simp -implicitDefEqProofs only [cml_pair.j5, cml_pair.qb4_0 Kr4 kr4 hK4] <;> kernel_rfl)
noncomputable def cml_pair.H5 (n : Nat) (K3 : St → Option cml_pair.R) (K1 : St → Option cml_pair.R) (Kb4 : St → Option cml_pair.R) (X : XC) : St → Option cml_pair.R := fun st => ghK [.keep [0, 5, 6, 7, 8, 13, 14]] st fun st => ev X st (⟨retK cml_pair.rs cml_pair.ps cml_pair.r, [(2, K3), (1, K3), (0, K1)]⟩ : Ks cml_pair.R) Kb4
noncomputable abbrev cml_pair.K5 (n : Nat) (Kr2 : St → Option cml_pair.R) (Kr4 : St → Option cml_pair.R) : St → Option cml_pair.R := cml_pair.H5 n (cml_pair.K3 n Kr2) (cml_pair.K1 n) (cml_pair.Kb4 Kr4) (cml_pair.c5 n)
noncomputable def cml_pair.db4 (n : Nat) (X5 : XC) : XC :=
  (.aft (.seq (.seq (.reg (.op (.mv 29 (.t 8)) none <| .op (.mv 30 (.t 0)) none <| .op (.len 31 (.t 30) false) none <| .op (.bin 32 .lss (.t 29) (.t 31)) none <| .nil)) <|
  (.cond (.t 32)
  .skip
  (.pre [.keep [0, 13, 14]] (.exit 2)))) <|
  (.seq (.aft (.block 3 (.seq (.reg (.op (.mv 35 (.t 0)) none <| .op (.mv 36 (.t 8)) none <| .op (.idxA 37 (.t 35) (.t 36) 9 0) none <| .op (.fa 38 37 0 0) none <| .op (.ld 39 38 8 true) none <| .op (.alloc 9 ⟨TOp, (((0 : Int), (0 : Int), (0 : Int), ([] : List Int), (0 : Int), ([] : List Int), (0 : Int), ([] : List Int), ()) : DOp)⟩) none <| .op (.st 9 (.t 39) 8) none <| .nil)) <|
  (.seq (.seq (.reg (.op (.fa 40 9 0 0) none <| .op (.ld 41 40 1 false) none <| .op (.mv 42 (.t 7)) none <| .op (.bin 43 .eql (.t 41) (.t 42)) none <| .op (.mv 44 (.t 43)) none <| .grp 44 true (.op (.fa 45 9 2 2) (some ([9, 44, 45], [45])) <| .op (.ld 46 45 1 false) (some ([9, 44, 45, 46], [46])) <| .op (.fa 47 6 2 2) (some ([6, 44, 47], [47])) <| .op (.ld 48 47 1 false) (some ([6, 44, 47, 48], [48])) <| .op (.bin 49 .eql (.t 46) (.t 48)) (some ([44, 46, 48, 49], [49])) <| .nil) 49 50 [45, 46, 47, 48, 49] <| .op (.mv 51 (.t 50)) none <| .grp 51 true (.op (.fa 52 9 3 3) (some ([9, 51, 52], [52])) <| .op (.ld 53 52 1 false) (some ([9, 51, 52, 53], [53])) <| .op (.fa 54 6 3 3) (some ([6, 51, 54], [54])) <| .op (.ld 55 54 1 false) (some ([6, 51, 54, 55], [55])) <| .op (.bin 56 .eql (.t 53) (.t 55)) (some ([51, 53, 55, 56], [56])) <| .nil) 56 57 [52, 53, 54, 55, 56] <| .nil)) <|
  (.cond (.t 57)
  (.seq (.pre [.keep [5, 8]] (.reg (.op (.mv 58 (.t 5)) none <| .op (.mv 59 (.t 8)) none <| .op (.mv 2 (.t 58)) none <| .op (.mv 3 (.t 59)) none <| .op (.mv 4 (.c ⟨.bool, (true : Bool)⟩)) none <| .nil))) <|
  .ret)
  .skip)) <|
  (.seq (.pre [.keep [0, 5, 6, 7, 8, 13, 14]] (.reg (.op (.mv 61 (.t 0)) none <| .op (.mv 62 (.t 8)) none <| .op (.idxA 63 (.t 61) (.t 62) 9 0) none <| .op (.ld 64 63 9 true) none <| .op (.call (some 65) (cml_of.sp n) [.v (.t 64)]) none <| .op (.take 60 65) none <| .op (.ext 66 60 0) none <| .op (.ext 67 60 1) none <| .op (.alloc 10 ⟨Tcontent, (((0 : Int), (0 : Int), ()) : Dcontent)⟩) none <| .op (.st 10 (.t 66) 2) none <| .op (.mv 11 (.t 67)) none <| .nil))) <|
  (.seq (.regD (.op (.mv 68 (.t 0)) (some ([0, 68], [68])) <| .op (.mv 69 (.t 8)) (some ([8, 69], [69])) <| .op (.idxA 70 (.t 68) (.t 69) 9 0) (some ([68, 69, 70], [70])) <| .op (.ld 71 70 9 true) (some ([70, 71], [71])) <| .op (.fa 72 6 1 1) (some ([6, 72], [72])) <| .op (.ld 73 72 1 false) (some ([6, 72, 73], [73])) <| .op (.call (some 74) (cml_Touches.sp n) [.v (.t 71), .v (.t 73)]) (some ([71, 73, 74], [74])) <| .op (.mv 75 (.t 74)) (some ([74, 75], [75])) <| .grp 75 false (.op (.mv 76 (.t 0)) (some ([0, 75, 76], [76])) <| .op (.mv 77 (.t 8)) (some ([8, 75, 77], [77])) <| .op (.idxA 78 (.t 76) (.t 77) 9 0) (some ([75, 76, 77, 78], [78])) <| .op (.ld 79 78 9 true) (some ([75, 78, 79], [79])) <| .op (.fa 80 6 2 2) (some ([6, 75, 80], [80])) <| .op (.ld 81 80 1 false) (some ([6, 75, 80, 81], [81])) <| .op (.fa 82 6 3 3) (some ([6, 75, 82], [82])) <| .op (.ld 83 82 1 false) (some ([6, 75, 82, 83], [83])) <| .op (.call (some 84) (cml_names.sp n) [.v (.t 79), .v (.t 81), .v (.t 83)]) (some ([75, 79, 81, 83, 84], [84])) <| .nil) 84 85 [76, 77, 78, 79, 80, 81, 82, 83, 84] <| .op (.mv 86 (.t 85)) (some ([85, 86], [86])) <| .grp 86 true (.op (.mv 87 (.t 11)) (some ([11, 86, 87], [87])) <| .op (.mv 88 (.t 87)) (some ([86, 87, 88], [88])) <| .grp 88 true (.op (.fa 89 10 1 1) (some ([10, 88, 89], [89])) <| .op (.ld 90 89 1 false) (some ([10, 88, 89, 90], [90])) <| .op (.fa 91 6 1 1) (some ([6, 88, 91], [91])) <| .op (.ld 92 91 1 false) (some ([6, 88, 91, 92], [92])) <| .op (.bin 93 .eql (.t 90) (.t 92)) (some ([88, 90, 92, 93], [93])) <| .nil) 93 94 [89, 90, 91, 92, 93] <| .op (.un 95 .not (.t 94)) (some ([86, 94, 95], [95])) <| .nil) 95 96 [87, 88, 89, 90, 91, 92, 93, 94, 95] <| .nil)) <|
  (.cond (.t 96)
  (.pre [.keep [0, 13, 14]] (.exit 1))
  .skip)))))) [.keep [0, 5, 6, 7, 8, 13, 14]]) X5)) [.keep [0, 5, 6, 7, 8, 13, 14]])
noncomputable abbrev cml_pair.cb4 (n : Nat) : XC := cml_pair.db4 n (cml_pair.c5 n)
theorem cml_pair.q3_0_r (n : Nat) (Kr2 : St → Option cml_pair.R) (K1 : St → Option cml_pair.R) (Kb2 : St → Option cml_pair.R) (X : XC) (x0 : List DRecord) (x13 : Int) (x14 : Int) : cml_pair.H3 n K1 Kb2 X [(0, some ⟨.slB .U false TRecord, x0⟩), (13, some ⟨.int .i64, x13⟩), (14, some ⟨.int .i64, x14⟩)] = (ev X [(0, some ⟨.slB .U false TRecord, x0⟩), (13, some ⟨.int .i64, x13⟩), (14, some ⟨.int .i64, x14⟩)] (⟨retK cml_pair.rs cml_pair.ps cml_pair.r, [(0, K1)]⟩ : Ks cml_pair.R) Kb2 : Option cml_pair.R) := by kernel_rfl
theorem cml_pair.q3_0 (n : Nat) (Kr2 : St → Option cml_pair.R) (kr2 : (List DRecord) → Int → Int → Option (Int × Int × Bool × Unit)) (hK2 : ∀ (x0 : List DRecord) (x13 : Int) (x14 : Int), Kr2 [(0, some ⟨.slB .U false TRecord, x0⟩), (13, some ⟨.int .i64, x13⟩), (14, some ⟨.int .i64, x14⟩)] = kr2 x0 x13 x14) (x0 : List DRecord) (x13 : Int) (x14 : Int) : cml_pair.K3 n Kr2 [(0, some ⟨.slB .U false TRecord, x0⟩), (13, some ⟨.int .i64, x13⟩), (14, some ⟨.int .i64, x14⟩)] = cml_pair.j3 n kr2 x0 x13 x14 := (cml_pair.q3_0_r n Kr2 (cml_pair.K1 n) (cml_pair.Kb2 Kr2) (cml_pair.c3 n) x0 x13 x14).trans (cml_pair.s3 n Kr2 kr2 hK2 x0 x13 x14)
noncomputable def cml_pair.l4 (n : Nat) (kr2 : (List DRecord) → Int → Int → Option (Int × Int × Bool × Unit)) : Nat → (List DRecord) → Int → DOp → Int → Int → Int → Int → Option (Int × Int × Bool × Unit)
  | 0, _, _, _, _, _, _, _ => none
  | k + 1, x0, x5, x6, x7, x8, x13, x14 =>
  bif (decide (x8 < (x0.length : Int))) then (idxK x0 x8 fun e1 => (bif (decide (e1.1.1 = x7)) then (some (decide (e1.1.2.2.1 = x6.2.2.1))) else some false).bind fun g2 =>
  (bif g2 then (some (decide (e1.1.2.2.2.1 = x6.2.2.2.1))) else some false).bind fun g3 =>
  bif g3 then (some (x5, x8, true, ()))
  else (idxK x0 x8 fun e4 => (cml_of.f n ((e4.1.1, e4.1.2.1, e4.1.2.2.1, e4.1.2.2.2.1, e4.1.2.2.2.2.1, e4.1.2.2.2.2.2.1, e4.1.2.2.2.2.2.2.1, e4.1.2.2.2.2.2.2.2.1, e4.1.2.2.2.2.2.2.2.2), e4.2.1, e4.2.2)).bind fun r5 => idxK x0 x8 fun e6 => (cml_Touches.f n ((e6.1.1, e6.1.2.1, e6.1.2.2.1, e6.1.2.2.2.1, e6.1.2.2.2.2.1, e6.1.2.2.2.2.2.1, e6.1.2.2.2.2.2.2.1, e6.1.2.2.2.2.2.2.2.1, e6.1.2.2.2.2.2.2.2.2), e6.2.1, e6.2.2) x6.2.1).bind fun r7 => (bif r7 then some true else (idxK x0 x8 fun e9 => (cml_names.f n ((e9.1.1, e9.1.2.1, e9.1.2.2.1, e9.1.2.2.2.1, e9.1.2.2.2.2.1, e9.1.2.2.2.2.2.1, e9.1.2.2.2.2.2.2.1, e9.1.2.2.2.2.2.2.2.1, e9.1.2.2.2.2.2.2.2.2), e9.2.1, e9.2.2) x6.2.2.1 x6.2.2.2.1).bind fun r10 => some r10)).bind fun g8 =>
  (bif g8 then ((bif r5.2.1 then (some (decide (r5.1.2.1 = x6.2.1))) else some false).bind fun g12 =>
  some (!g12)) else some false).bind fun g11 =>
  bif g11 then (cml_pair.j3 n kr2 x0 x13 x14)
  else (cml_pair.j5 n kr2 (cml_pair.l4 n kr2 k) x0 x5 (x6.1, x6.2.1, x6.2.2.1, x6.2.2.2.1, x6.2.2.2.2.1, x6.2.2.2.2.2.1, x6.2.2.2.2.2.2.1, x6.2.2.2.2.2.2.2.1, x6.2.2.2.2.2.2.2.2) x7 x8 x13 x14)))
  else (cml_pair.j3 n kr2 x0 x13 x14)
theorem cml_pair.wb4 (n : Nat) (Kr2 : St → Option cml_pair.R) (Kr4 : St → Option cml_pair.R) (x0 : List DRecord) (x5 : Int) (x6 : DOp) (x7 : Int) (x8 : Int) (x13 : Int) (x14 : Int) (K3 : St → Option cml_pair.R) (K1 : St → Option cml_pair.R) (X5 : XC) : ev (cml_pair.db4 n X5) (keepSt [(0, some ⟨.slB .U false TRecord, x0⟩), (5, some ⟨.int .i64, x5⟩), (6, some ⟨.box TOp, x6⟩), (7, some ⟨.int .u8, x7⟩), (8, some ⟨.int .i64, x8⟩), (13, some ⟨.int .i64, x13⟩), (14, some ⟨.int .i64, x14⟩)] [0, 5, 6, 7, 8, 13, 14]) (⟨retK cml_pair.rs cml_pair.ps cml_pair.r, [(2, K3), (1, K3), (0, K1)]⟩ : Ks cml_pair.R) Kr4 =
  (bif (decide (x8 < (x0.length : Int))) then (idxK x0 x8 fun e1 => (bif (decide (e1.1.1 = x7)) then (some (decide (e1.1.2.2.1 = x6.2.2.1))) else some false).bind fun g2 =>
  (bif g2 then (some (decide (e1.1.2.2.2.1 = x6.2.2.2.1))) else some false).bind fun g3 =>
  bif g3 then (some (x5, x8, true, ()))
  else (idxK x0 x8 fun e4 => (cml_of.f n ((e4.1.1, e4.1.2.1, e4.1.2.2.1, e4.1.2.2.2.1, e4.1.2.2.2.2.1, e4.1.2.2.2.2.2.1, e4.1.2.2.2.2.2.2.1, e4.1.2.2.2.2.2.2.2.1, e4.1.2.2.2.2.2.2.2.2), e4.2.1, e4.2.2)).bind fun r5 => idxK x0 x8 fun e6 => (cml_Touches.f n ((e6.1.1, e6.1.2.1, e6.1.2.2.1, e6.1.2.2.2.1, e6.1.2.2.2.2.1, e6.1.2.2.2.2.2.1, e6.1.2.2.2.2.2.2.1, e6.1.2.2.2.2.2.2.2.1, e6.1.2.2.2.2.2.2.2.2), e6.2.1, e6.2.2) x6.2.1).bind fun r7 => (bif r7 then some true else (idxK x0 x8 fun e9 => (cml_names.f n ((e9.1.1, e9.1.2.1, e9.1.2.2.1, e9.1.2.2.2.1, e9.1.2.2.2.2.1, e9.1.2.2.2.2.2.1, e9.1.2.2.2.2.2.2.1, e9.1.2.2.2.2.2.2.2.1, e9.1.2.2.2.2.2.2.2.2), e9.2.1, e9.2.2) x6.2.2.1 x6.2.2.2.1).bind fun r10 => some r10)).bind fun g8 =>
  (bif g8 then ((bif r5.2.1 then (some (decide (r5.1.2.1 = x6.2.1))) else some false).bind fun g12 =>
  some (!g12)) else some false).bind fun g11 =>
  bif g11 then (K3 [(0, some ⟨.slB .U false TRecord, x0⟩), (13, some ⟨.int .i64, x13⟩), (14, some ⟨.int .i64, x14⟩)])
  else (ev X5 [(0, some ⟨.slB .U false TRecord, x0⟩), (5, some ⟨.int .i64, x5⟩), (6, some ⟨.box TOp, ((x6.1, x6.2.1, x6.2.2.1, x6.2.2.2.1, x6.2.2.2.2.1, x6.2.2.2.2.2.1, x6.2.2.2.2.2.2.1, x6.2.2.2.2.2.2.2.1, x6.2.2.2.2.2.2.2.2) : DOp)⟩), (7, some ⟨.int .u8, x7⟩), (8, some ⟨.int .i64, x8⟩), (13, some ⟨.int .i64, x13⟩), (14, some ⟨.int .i64, x14⟩)] (⟨retK cml_pair.rs cml_pair.ps cml_pair.r, [(2, K3), (1, K3), (0, K1)]⟩ : Ks cml_pair.R) (cml_pair.Kb4 Kr4))))
  else (K3 [(0, some ⟨.slB .U false TRecord, x0⟩), (13, some ⟨.int .i64, x13⟩), (14, some ⟨.int .i64, x14⟩)]) : Option cml_pair.R) := by kernel_rfl
theorem cml_pair.l4_ok (n : Nat) (Kr2 : St → Option cml_pair.R) (kr2 : (List DRecord) → Int → Int → Option (Int × Int × Bool × Unit)) (hK2 : ∀ (x0 : List DRecord) (x13 : Int) (x14 : Int), Kr2 [(0, some ⟨.slB .U false TRecord, x0⟩), (13, some ⟨.int .i64, x13⟩), (14, some ⟨.int .i64, x14⟩)] = kr2 x0 x13 x14) (k : Nat) : ∀ (x0 : List DRecord) (x5 : Int) (x6 : DOp) (x7 : Int) (x8 : Int) (x13 : Int) (x14 : Int), loopEv [0, 5, 6, 7, 8, 13, 14] (fun s K => ev (cml_pair.cb4 n) s (⟨retK cml_pair.rs cml_pair.ps cml_pair.r, [(2, (cml_pair.K3 n Kr2)), (1, (cml_pair.K3 n Kr2)), (0, (cml_pair.K1 n))]⟩ : Ks cml_pair.R) K) k [(0, some ⟨.slB .U false TRecord, x0⟩), (5, some ⟨.int .i64, x5⟩), (6, some ⟨.box TOp, x6⟩), (7, some ⟨.int .u8, x7⟩), (8, some ⟨.int .i64, x8⟩), (13, some ⟨.int .i64, x13⟩), (14, some ⟨.int .i64, x14⟩)] = cml_pair.l4 n kr2 k x0 x5 x6 x7 x8 x13 x14 := by
  induction k with
  | zero => intros; rfl
  | succ k ih =>
    intro x0 x5 x6 x7 x8 x13 x14
    exact (cml_pair.wb4 n Kr2 (fun st => loopEv [0, 5, 6, 7, 8, 13, 14] (fun s K => ev (cml_pair.cb4 n) s (⟨retK cml_pair.rs cml_pair.ps cml_pair.r, [(2, (cml_pair.K3 n Kr2)), (1, (cml_pair.K3 n Kr2)), (0, (cml_pair.K1 n))]⟩ : Ks cml_pair.R) K) k st) x0 x5 x6 x7 x8 x13 x14 (cml_pair.K3 n Kr2) (cml_pair.K1 n) (cml_pair.c5 n)).trans (by simp -implicitDefEqProofs only [cml_pair.l4, cml_pair.q3_0 n Kr2 kr2 hK2, cml_pair.s5 n Kr2 (fun st => loopEv [0, 5, 6, 7, 8, 13, 14] (fun s K => ev (cml_pair.cb4 n) s (⟨retK cml_pair.rs cml_pair.ps cml_pair.r, [(2, (cml_pair.K3 n Kr2)), (1, (cml_pair.K3 n Kr2)), (0, (cml_pair.K1 n))]⟩ : Ks cml_pair.R) K) k st) kr2 (cml_pair.l4 n kr2 k) hK2 ih] <;> kernel_rfl)
noncomputable def cml_pair.db2 (n : Nat) (X3 Y4 : XC) : XC :=
  (.aft (.seq (.reg (.op (.bin 15 .lss (.t 14) (.t 13)) none <| .nil)) <|
  (.seq (.cond (.t 15)
  .skip
  (.pre [.keep []] (.exit 0))) <|
  (.seq (.aft (.block 1 (.seq (.reg (.op (.mv 16 (.t 14)) none <| .op (.mv 5 (.t 16)) none <| .nil)) <|
  (.seq (.reg (.op (.mv 17 (.t 0)) none <| .op (.mv 18 (.t 5)) none <| .op (.idxA 19 (.t 17) (.t 18) 9 0) none <| .op (.fa 20 19 0 0) none <| .op (.ld 21 20 8 true) none <| .op (.alloc 6 ⟨TOp, (((0 : Int), (0 : Int), (0 : Int), ([] : List Int), (0 : Int), ([] : List Int), (0 : Int), ([] : List Int), ()) : DOp)⟩) none <| .op (.st 6 (.t 21) 8) none <| .nil)) <|
  (.seq (.reg (.op (.fa 22 6 0 0) none <| .op (.ld 23 22 1 false) none <| .op (.call (some 24) (cml_undo.sp n) [.v (.t 23)]) none <| .op (.mv 7 (.t 24)) none <| .nil)) <|
  (.seq (.seq (.reg (.op (.mv 25 (.t 7)) none <| .op (.bin 26 .eql (.t 25) (.c ⟨.int .u8, ((0 : Int) : Int)⟩)) none <| .nil)) <|
  (.cond (.t 26)
  (.pre [.keep [0, 13, 14]] (.exit 1))
  .skip)) <|
  (.seq (.pre [.keep [0, 5, 6, 7, 13, 14]] (.reg (.op (.mv 27 (.t 5)) none <| .op (.bin 28 .add (.t 27) (.c ⟨.int .i64, ((1 : Int) : Int)⟩)) none <| .op (.mv 8 (.t 28)) none <| .nil))) <|
  (.block 2 (.pre [.keep [0, 5, 6, 7, 8, 13, 14]] (.loop n [0, 5, 6, 7, 8, 13, 14] Y4))))))))) [.keep [0, 13, 14]]) X3))) [.keep [0, 13, 14]])
noncomputable abbrev cml_pair.cb2 (n : Nat) : XC := cml_pair.db2 n (cml_pair.c3 n) (cml_pair.cb4 n)
theorem cml_pair.q1_0_r (n : Nat) (X : XC)  : cml_pair.H1 n X [] = (ev X [] (⟨retK cml_pair.rs cml_pair.ps cml_pair.r, []⟩ : Ks cml_pair.R) (retK cml_pair.rs cml_pair.ps cml_pair.r) : Option cml_pair.R) := by kernel_rfl
theorem cml_pair.q1_0 (n : Nat)  : cml_pair.K1 n [] = cml_pair.j1 n  := (cml_pair.q1_0_r n (cml_pair.c1 n) ).trans (cml_pair.s1 n )
noncomputable def cml_pair.l2 (n : Nat) : Nat → (List DRecord) → Int → Int → Option (Int × Int × Bool × Unit)
  | 0, _, _, _ => none
  | k + 1, x0, x13, x14 =>
  bif (decide (x14 < x13)) then (idxK x0 x14 fun e1 => (cml_undo.f n e1.1.1).bind fun r2 => bif (decide (r2 = (0 : Int))) then (cml_pair.j3 n (cml_pair.l2 n k) x0 x13 x14)
  else (cml_pair.l4 n (cml_pair.l2 n k) n x0 x14 (e1.1.1, e1.1.2.1, e1.1.2.2.1, e1.1.2.2.2.1, e1.1.2.2.2.2.1, e1.1.2.2.2.2.2.1, e1.1.2.2.2.2.2.2.1, e1.1.2.2.2.2.2.2.2.1, e1.1.2.2.2.2.2.2.2.2) r2 (IntKind.i64.wrap (x14 + (1 : Int))) x13 x14))
  else (cml_pair.j1 n )
theorem cml_pair.wb2 (n : Nat) (Kr2 : St → Option cml_pair.R) (x0 : List DRecord) (x13 : Int) (x14 : Int) (K1 : St → Option cml_pair.R) (X3 Y4 : XC) : ev (cml_pair.db2 n X3 Y4) (keepSt [(0, some ⟨.slB .U false TRecord, x0⟩), (13, some ⟨.int .i64, x13⟩), (14, some ⟨.int .i64, x14⟩)] [0, 13, 14]) (⟨retK cml_pair.rs cml_pair.ps cml_pair.r, [(0, K1)]⟩ : Ks cml_pair.R) Kr2 =
  (bif (decide (x14 < x13)) then (idxK x0 x14 fun e1 => (cml_undo.f n e1.1.1).bind fun r2 => bif (decide (r2 = (0 : Int))) then (ev X3 [(0, some ⟨.slB .U false TRecord, x0⟩), (13, some ⟨.int .i64, x13⟩), (14, some ⟨.int .i64, x14⟩)] (⟨retK cml_pair.rs cml_pair.ps cml_pair.r, [(0, K1)]⟩ : Ks cml_pair.R) (cml_pair.Kb2 Kr2))
  else (loopEv [0, 5, 6, 7, 8, 13, 14] (fun s K => ev Y4 s (⟨retK cml_pair.rs cml_pair.ps cml_pair.r, [(2, (cml_pair.H3 n K1 (cml_pair.Kb2 Kr2) X3)), (1, (cml_pair.H3 n K1 (cml_pair.Kb2 Kr2) X3)), (0, K1)]⟩ : Ks cml_pair.R) K) n [(0, some ⟨.slB .U false TRecord, x0⟩), (5, some ⟨.int .i64, x14⟩), (6, some ⟨.box TOp, ((e1.1.1, e1.1.2.1, e1.1.2.2.1, e1.1.2.2.2.1, e1.1.2.2.2.2.1, e1.1.2.2.2.2.2.1, e1.1.2.2.2.2.2.2.1, e1.1.2.2.2.2.2.2.2.1, e1.1.2.2.2.2.2.2.2.2) : DOp)⟩), (7, some ⟨.int .u8, r2⟩), (8, some ⟨.int .i64, (IntKind.i64.wrap (x14 + (1 : Int)))⟩), (13, some ⟨.int .i64, x13⟩), (14, some ⟨.int .i64, x14⟩)]))
  else (K1 []) : Option cml_pair.R) := by kernel_rfl
theorem cml_pair.l2_ok (n : Nat) (k : Nat) : ∀ (x0 : List DRecord) (x13 : Int) (x14 : Int), loopEv [0, 13, 14] (fun s K => ev (cml_pair.cb2 n) s (⟨retK cml_pair.rs cml_pair.ps cml_pair.r, [(0, (cml_pair.K1 n))]⟩ : Ks cml_pair.R) K) k [(0, some ⟨.slB .U false TRecord, x0⟩), (13, some ⟨.int .i64, x13⟩), (14, some ⟨.int .i64, x14⟩)] = cml_pair.l2 n k x0 x13 x14 := by
  induction k with
  | zero => intros; rfl
  | succ k ih =>
    intro x0 x13 x14
    exact (cml_pair.wb2 n (fun st => loopEv [0, 13, 14] (fun s K => ev (cml_pair.cb2 n) s (⟨retK cml_pair.rs cml_pair.ps cml_pair.r, [(0, (cml_pair.K1 n))]⟩ : Ks cml_pair.R) K) k st) x0 x13 x14 (cml_pair.K1 n) (cml_pair.c3 n) (cml_pair.cb4 n)).trans (by simp -implicitDefEqProofs only [cml_pair.l2, cml_pair.s3 n (fun st => loopEv [0, 13, 14] (fun s K => ev (cml_pair.cb2 n) s (⟨retK cml_pair.rs cml_pair.ps cml_pair.r, [(0, (cml_pair.K1 n))]⟩ : Ks cml_pair.R) K) k st) (cml_pair.l2 n k) ih, cml_pair.l4_ok n (fun st => loopEv [0, 13, 14] (fun s K => ev (cml_pair.cb2 n) s (⟨retK cml_pair.rs cml_pair.ps cml_pair.r, [(0, (cml_pair.K1 n))]⟩ : Ks cml_pair.R) K) k st) (cml_pair.l2 n k) ih, cml_pair.q1_0 n] <;> kernel_rfl)
noncomputable def cml_pair.d (n : Nat) (X1 Y2 : XC) : XC :=
  (.seq (.reg (.op (.mv 2 (.c ⟨.int .i64, ((0 : Int) : Int)⟩)) none <| .op (.mv 3 (.c ⟨.int .i64, ((0 : Int) : Int)⟩)) none <| .op (.mv 4 (.c ⟨.bool, (false : Bool)⟩)) none <| .nil)) <|
  (.scopeS (.seq .skip <|
  (.seq (.aft (.seq (.reg (.op (.mv 12 (.t 0)) none <| .op (.len 13 (.t 12) false) none <| .op (.mv 14 (.c ⟨.int .i64, ((0 : Int) : Int)⟩)) none <| .nil)) <|
  (.block 0 (.pre [.keep [0, 13, 14]] (.loop n [0, 13, 14] Y2)))) [.keep []]) X1))))
noncomputable abbrev cml_pair.c (n : Nat) : XC := cml_pair.d n (cml_pair.c1 n) (cml_pair.cb2 n)
noncomputable def cml_pair.f (n : Nat) (a0 : List DRecord) : Option (Int × Int × Bool × Unit) :=
  cml_pair.l2 n n a0 (a0.length : Int) (0 : Int)
theorem cml_pair.w (n : Nat) (a0 : List DRecord) (X1 Y2 : XC) : evFn (cml_pair.d n X1 Y2) cml_pair.rs cml_pair.ps cml_pair.r (a0, ()) =
  (loopEv [0, 13, 14] (fun s K => ev Y2 s (⟨retK cml_pair.rs cml_pair.ps cml_pair.r, [(0, (cml_pair.H1 n X1))]⟩ : Ks cml_pair.R) K) n [(0, some ⟨.slB .U false TRecord, a0⟩), (13, some ⟨.int .i64, (a0.length : Int)⟩), (14, some ⟨.int .i64, (0 : Int)⟩)] : Option cml_pair.R) := by kernel_rfl
theorem cml_pair.ok (n : Nat) (a0 : List DRecord) : evFn (cml_pair.c n) cml_pair.rs cml_pair.ps cml_pair.r (a0, ()) = cml_pair.f n a0 := (cml_pair.w n a0 (cml_pair.c1 n) (cml_pair.cb2 n)).trans (by simp -implicitDefEqProofs only [cml_pair.f, cml_pair.l2_ok n] <;> kernel_rfl)
noncomputable def cml_pair.sp (n : Nat) : FSpec := { f := 30, ps := cml_pair.ps, r := cml_pair.r, run := fun x => cml_pair.f n x.1 }
theorem cml_pair.calls (n : Nat) : (cml_pair.c n).calls = [cml_undo.sp n, cml_of.sp n, cml_Touches.sp n, cml_names.sp n] := by kernel_rfl
theorem cml_pair.fits (n : Nat) : fnB tab hd Try.f30 (cml_pair.c n) cml_pair.rs (cml_pair.sp n).ps (cml_pair.sp n).r = true := by kernel_rfl
theorem cml_pair.sound (n : Nat) : Sound Try.prog (cml_pair.sp n) := by
  refine fnB_sound tabOk eqFacts mixed (fn := Try.f30) (c := cml_pair.c n) (rs := cml_pair.rs) (by kernel_rfl) ?_ (cml_pair.fits n) ?_
  · rw [cml_pair.calls]
    intro s hs
    simp only [List.mem_cons, List.not_mem_nil, or_false] at hs
    rcases hs with rfl | rfl | rfl | rfl
    · exact cml_undo.meets n
    · exact cml_of.meets n
    · exact cml_Touches.meets n
    · exact cml_names.meets n
  · rintro ⟨a0, ⟨⟩⟩ y h
    exact (cml_pair.ok n a0).trans h
theorem cml_pair.meets (n : Nat) : Meets Try.prog (cml_pair.sp n) := (cml_pair.sound n).meets
/-! backwater/cml.Optimise$1 -/
abbrev cml_Optimise_1.ps : List (Ty × Bool) := [(TRecord, false), (.cref (.int .u32), false)]
abbrev cml_Optimise_1.r : Ty := .bool
abbrev cml_Optimise_1.rs : List RV := [.t 3]
abbrev cml_Optimise_1.R : Type := (rtOf cml_Optimise_1.ps cml_Optimise_1.r).den
noncomputable def cml_Optimise_1.d (n : Nat) : XC :=
  (.seq (.reg (.op (.boxv 2 (.t 0)) none <| .op (.mv 3 (.c ⟨.bool, (false : Bool)⟩)) none <| .nil)) <|
  (.seq (.reg (.op (.ld 4 2 9 true) none <| .op (.ld 5 1 1 false) none <| .op (.call (some 6) (cml_Touches.sp n) [.v (.t 4), .v (.t 5)]) none <| .op (.mv 3 (.t 6)) none <| .nil)) <|
  .ret))
noncomputable abbrev cml_Optimise_1.c (n : Nat) : XC := cml_Optimise_1.d n
noncomputable def cml_Optimise_1.f (n : Nat) (a0 : DRecord) (a1 : Int) : Option Bool :=
  (cml_Touches.f n ((a0.1.1, a0.1.2.1, a0.1.2.2.1, a0.1.2.2.2.1, a0.1.2.2.2.2.1, a0.1.2.2.2.2.2.1, a0.1.2.2.2.2.2.2.1, a0.1.2.2.2.2.2.2.2.1, a0.1.2.2.2.2.2.2.2.2), a0.2.1, a0.2.2) a1).bind fun r1 => some r1
theorem cml_Optimise_1.ok (n : Nat) (a0 : DRecord) (a1 : Int) : evFn (cml_Optimise_1.c n) cml_Optimise_1.rs cml_Optimise_1.ps cml_Optimise_1.r (a0, a1, ()) = cml_Optimise_1.f n a0 a1 := by kernel_rfl
noncomputable def cml_Optimise_1.sp (n : Nat) : FSpec := { f := 33, ps := cml_Optimise_1.ps, r := cml_Optimise_1.r, run := fun x => cml_Optimise_1.f n x.1 x.2.1 }
theorem cml_Optimise_1.calls (n : Nat) : (cml_Optimise_1.c n).calls = [cml_Touches.sp n] := by kernel_rfl
theorem cml_Optimise_1.fits (n : Nat) : fnB tab hd Try.f33 (cml_Optimise_1.c n) cml_Optimise_1.rs (cml_Optimise_1.sp n).ps (cml_Optimise_1.sp n).r = true := by kernel_rfl
theorem cml_Optimise_1.sound (n : Nat) : Sound Try.prog (cml_Optimise_1.sp n) := by
  refine fnB_sound tabOk eqFacts mixed (fn := Try.f33) (c := cml_Optimise_1.c n) (rs := cml_Optimise_1.rs) (by kernel_rfl) ?_ (cml_Optimise_1.fits n) ?_
  · rw [cml_Optimise_1.calls]
    intro s hs
    simp only [List.mem_cons, List.not_mem_nil, or_false] at hs
    rcases hs with rfl
    · exact cml_Touches.meets n
  · rintro ⟨a0, a1, ⟨⟩⟩ y h
    exact (cml_Optimise_1.ok n a0 a1).trans h
theorem cml_Optimise_1.meets (n : Nat) : Meets Try.prog (cml_Optimise_1.sp n) := (cml_Optimise_1.sound n).meets
/-! slices.IndexFunc[[]backwater/api.Record,backwater/api.Record] -/
abbrev slices_IndexFunc_47.ps : List (Ty × Bool) := [(.slB .U false TRecord, false), (.fn 33 (.pair (.cref (.int .u32)) .unit), false)]
abbrev slices_IndexFunc_47.r : Ty := .int .i64
abbrev slices_IndexFunc_47.rs : List RV := [.t 4]
abbrev slices_IndexFunc_47.R : Type := (rtOf slices_IndexFunc_47.ps slices_IndexFunc_47.r).den
noncomputable def slices_IndexFunc_47.d1 (n : Nat) : XC :=
  (.seq (.reg (.op (.mv 4 (.c ⟨.int .i64, ((-1 : Int) : Int)⟩)) none <| .nil)) <|
  .ret)
noncomputable abbrev slices_IndexFunc_47.c1 (n : Nat) : XC := slices_IndexFunc_47.d1 n
noncomputable def slices_IndexFunc_47.j1 (n : Nat)  : Option Int :=
  some (-1 : Int)
theorem slices_IndexFunc_47.s1 (n : Nat)  : ev (slices_IndexFunc_47.c1 n) [] (⟨retK slices_IndexFunc_47.rs slices_IndexFunc_47.ps slices_IndexFunc_47.r, []⟩ : Ks slices_IndexFunc_47.R) (retK slices_IndexFunc_47.rs slices_IndexFunc_47.ps slices_IndexFunc_47.r) = slices_IndexFunc_47.j1 n  := by kernel_rfl
noncomputable def slices_IndexFunc_47.H1 (n : Nat) (X : XC) : St → Option slices_IndexFunc_47.R := fun st => ghK [.keep []] st fun st => ev X st (⟨retK slices_IndexFunc_47.rs slices_IndexFunc_47.ps slices_IndexFunc_47.r, []⟩ : Ks slices_IndexFunc_47.R) (retK slices_IndexFunc_47.rs slices_IndexFunc_47.ps slices_IndexFunc_47.r)
noncomputable abbrev slices_IndexFunc_47.K1 (n : Nat) : St → Option slices_IndexFunc_47.R := slices_IndexFunc_47.H1 n (slices_IndexFunc_47.c1 n)
noncomputable def slices_IndexFunc_47.Kb2 (Kr2 : St → Option slices_IndexFunc_47.R) : St → Option slices_IndexFunc_47.R := fun st => ghK [.keep [0, 1, 7, 8]] st Kr2
noncomputable def slices_IndexFunc_47.d3 (n : Nat) : XC :=
  (.aft (.reg (.op (.bin 18 .add (.t 8) (.c ⟨.int .i64, ((1 : Int) : Int)⟩)) none <| .op (.mv 8 (.t 18)) none <| .nil)) [.keep [0, 1, 7, 8]])
noncomputable abbrev slices_IndexFunc_47.c3 (n : Nat) : XC := slices_IndexFunc_47.d3 n
theorem slices_IndexFunc_47.qb2_0 (Kr2 : St → Option slices_IndexFunc_47.R) (kr2 : (List DRecord) → (Int × Unit) → Int → Int → Option Int) (hK2 : ∀ (x0 : List DRecord) (x1 : Int × Unit) (x7 : Int) (x8 : Int), Kr2 [(0, some ⟨.slB .U false TRecord, x0⟩), (1, some ⟨.fn 33 (.pair (.cref (.int .u32)) .unit), x1⟩), (7, some ⟨.int .i64, x7⟩), (8, some ⟨.int .i64, x8⟩)] = kr2 x0 x1 x7 x8) (x0 : List DRecord) (x1 : Int × Unit) (x7 : Int) (x8 : Int) : slices_IndexFunc_47.Kb2 Kr2 [(0, some ⟨.slB .U false TRecord, x0⟩), (1, some ⟨.fn 33 (.pair (.cref (.int .u32)) .unit), x1⟩), (7, some ⟨.int .i64, x7⟩), (8, some ⟨.int .i64, x8⟩)] = kr2 x0 x1 x7 x8 := (by kernel_rfl : _ = Kr2 [(0, some ⟨.slB .U false TRecord, x0⟩), (1, some ⟨.fn 33 (.pair (.cref (.int .u32)) .unit), x1⟩), (7, some ⟨.int .i64, x7⟩), (8, some ⟨.int .i64, x8⟩)]).trans (hK2 x0 x1 x7 x8)
noncomputable def slices_IndexFunc_47.j3 (n : Nat) (kr2 : (List DRecord) → (Int × Unit) → Int → Int → Option Int) (x0 : List DRecord) (x1 : Int × Unit) (x7 : Int) (x8 : Int) : Option Int :=
  kr2 x0 x1 x7 (IntKind.i64.wrap (x8 + (1 : Int)))
theorem slices_IndexFunc_47.w3 (n : Nat) (Kr2 : St → Option slices_IndexFunc_47.R) (x0 : List DRecord) (x1 : Int × Unit) (x7 : Int) (x8 : Int) (K1 : St → Option slices_IndexFunc_47.R) (Kb2 : St → Option slices_IndexFunc_47.R) : ev (slices_IndexFunc_47.d3 n) [(0, some ⟨.slB .U false TRecord, x0⟩), (1, some ⟨.fn 33 (.pair (.cref (.int .u32)) .unit), x1⟩), (7, some ⟨.int .i64, x7⟩), (8, some ⟨.int .i64, x8⟩)] (⟨retK slices_IndexFunc_47.rs slices_IndexFunc_47.ps slices_IndexFunc_47.r, [(0, K1)]⟩ : Ks slices_IndexFunc_47.R) Kb2 =
  (Kb2 [(0, some ⟨.slB .U false TRecord, x0⟩), (1, some ⟨.fn 33 (.pair (.cref (.int .u32)) .unit), x1⟩), (7, some ⟨.int .i64, x7⟩), (8, some ⟨.int .i64, (IntKind.i64.wrap (x8 + (1 : Int)))⟩)] : Option slices_IndexFunc_47.R) := by kernel_rfl
theorem slices_IndexFunc_47.s3 (n : Nat) (Kr2 : St → Option slices_IndexFunc_47.R) (kr2 : (List DRecord) → (Int × Unit) → Int → Int → Option Int) (hK2 : ∀ (x0 : List DRecord) (x1 : Int × Unit) (x7 : Int) (x8 : Int), Kr2 [(0, some ⟨.slB .U false TRecord, x0⟩), (1, some ⟨.fn 33 (.pair (.cref (.int .u32)) .unit), x1⟩), (7, some ⟨.int .i64, x7⟩), (8, some ⟨.int .i64, x8⟩)] = kr2 x0 x1 x7 x8) (x0 : List DRecord) (x1 : Int × Unit) (x7 : Int) (x8 : Int) : ev (slices_IndexFunc_47.c3 n) [(0, some ⟨.slB .U false TRecord, x0⟩), (1, some ⟨.fn 33 (.pair (.cref (.int .u32)) .unit), x1⟩), (7, some ⟨.int .i64, x7⟩), (8, some ⟨.int .i64, x8⟩)] (⟨retK slices_IndexFunc_47.rs slices_IndexFunc_47.ps slices_IndexFunc_47.r, [(0, (slices_IndexFunc_47.K1 n))]⟩ : Ks slices_IndexFunc_47.R) (slices_IndexFunc_47.Kb2 Kr2) = slices_IndexFunc_47.j3 n kr2 x0 x1 x7 x8 := (slices_IndexFunc_47.w3 n Kr2 x0 x1 x7 x8 (slices_IndexFunc_47.K1 n) (slices_IndexFunc_47.Kb2 Kr2)).trans (by simp -implicitDefEqProofs only [slices_IndexFunc_47.j3, slices_IndexFunc_47.qb2_0 Kr2 kr2 hK2] <;> kernel_rfl)
noncomputable def slices_IndexFunc_47.H3 (n : Nat) (K1 : St → Option slices_IndexFunc_47.R) (Kb2 : St → Option slices_IndexFunc_47.R) (X : XC) : St → Option slices_IndexFunc_47.R := fun st => ghK [.keep [0, 1, 7, 8]] st fun st => ev X st (⟨retK slices_IndexFunc_47.rs slices_IndexFunc_47.ps slices_IndexFunc_47.r, [(0, K1)]⟩ : Ks slices_IndexFunc_47.R) Kb2
noncomputable abbrev slices_IndexFunc_47.K3 (n : Nat) (Kr2 : St → Option slices_IndexFunc_47.R) : St → Option slices_IndexFunc_47.R := slices_IndexFunc_47.H3 n (slices_IndexFunc_47.K1 n) (slices_IndexFunc_47.Kb2 Kr2) (slices_IndexFunc_47.c3 n)
noncomputable def slices_IndexFunc_47.db2 (n : Nat) (X3 : XC) : XC :=
  (.aft (.seq (.reg (.op (.bin 9 .lss (.t 8) (.t 7)) none <| .nil)) <|
  (.seq (.cond (.t 9)
  .skip
  (.pre [.keep []] (.exit 0))) <|
  (.seq (.aft (.block 1 (.seq (.reg (.op (.mv 10 (.t 8)) none <| .op (.mv 5 (.t 10)) none <| .nil)) <|
  (.seq (.reg (.op (.mv 11 (.t 1)) none <| .op (.mv 12 (.t 0)) none <| .op (.mv 13 (.t 5)) none <| .op (.idxA 14 (.t 12) (.t 13) 9 0) none <| .op (.ld 15 14 9 true) none <| .op (.callV (some 16) (cml_Optimise_1.sp n) 11 19 [.v (.t 15)]) none <| .nil)) <|
  (.cond (.t 16)
  (.seq (.pre [.keep [5]] (.reg (.op (.mv 17 (.t 5)) none <| .op (.mv 4 (.t 17)) none <| .nil))) <|
  .ret)
  .skip)))) [.keep [0, 1, 7, 8]]) X3))) [.keep [0, 1, 7, 8]])
noncomputable abbrev slices_IndexFunc_47.cb2 (n : Nat) : XC := slices_IndexFunc_47.db2 n (slices_IndexFunc_47.c3 n)
theorem slices_IndexFunc_47.q1_0_r (n : Nat) (X : XC)  : slices_IndexFunc_47.H1 n X [] = (ev X [] (⟨retK slices_IndexFunc_47.rs slices_IndexFunc_47.ps slices_IndexFunc_47.r, []⟩ : Ks slices_IndexFunc_47.R) (retK slices_IndexFunc_47.rs slices_IndexFunc_47.ps slices_IndexFunc_47.r) : Option slices_IndexFunc_47.R) := by kernel_rfl
theorem slices_IndexFunc_47.q1_0 (n : Nat)  : slices_IndexFunc_47.K1 n [] = slices_IndexFunc_47.j1 n  := (slices_IndexFunc_47.q1_0_r n (slices_IndexFunc_47.c1 n) ).trans (slices_IndexFunc_47.s1 n )
noncomputable def slices_IndexFunc_47.l2 (n : Nat) : Nat → (List DRecord) → (Int × Unit) → Int → Int → Option Int
  | 0, _, _, _, _ => none
  | k + 1, x0, x1, x7, x8 =>
  bif (decide (x8 < x7)) then (idxK x0 x8 fun e1 => (cml_Optimise_1.f n ((e1.1.1, e1.1.2.1, e1.1.2.2.1, e1.1.2.2.2.1, e1.1.2.2.2.2.1, e1.1.2.2.2.2.2.1, e1.1.2.2.2.2.2.2.1, e1.1.2.2.2.2.2.2.2.1, e1.1.2.2.2.2.2.2.2.2), e1.2.1, e1.2.2) x1.1).bind fun r2 => bif r2 then (some x8)
  else (slices_IndexFunc_47.j3 n (slices_IndexFunc_47.l2 n k) x0 x1 x7 x8))
  else (slices_IndexFunc_47.j1 n )
theorem slices_IndexFunc_47.wb2 (n : Nat) (Kr2 : St → Option slices_IndexFunc_47.R) (x0 : List DRecord) (x1 : Int × Unit) (x7 : Int) (x8 : Int) (K1 : St → Option slices_IndexFunc_47.R) (X3 : XC) : ev (slices_IndexFunc_47.db2 n X3) (keepSt [(0, some ⟨.slB .U false TRecord, x0⟩), (1, some ⟨.fn 33 (.pair (.cref (.int .u32)) .unit), x1⟩), (7, some ⟨.int .i64, x7⟩), (8, some ⟨.int .i64, x8⟩)] [0, 1, 7, 8]) (⟨retK slices_IndexFunc_47.rs slices_IndexFunc_47.ps slices_IndexFunc_47.r, [(0, K1)]⟩ : Ks slices_IndexFunc_47.R) Kr2 =
  (bif (decide (x8 < x7)) then (idxK x0 x8 fun e1 => (cml_Optimise_1.f n ((e1.1.1, e1.1.2.1, e1.1.2.2.1, e1.1.2.2.2.1, e1.1.2.2.2.2.1, e1.1.2.2.2.2.2.1, e1.1.2.2.2.2.2.2.1, e1.1.2.2.2.2.2.2.2.1, e1.1.2.2.2.2.2.2.2.2), e1.2.1, e1.2.2) x1.1).bind fun r2 => bif r2 then (some x8)
  else (ev X3 [(0, some ⟨.slB .U false TRecord, x0⟩), (1, some ⟨.fn 33 (.pair (.cref (.int .u32)) .unit), x1⟩), (7, some ⟨.int .i64, x7⟩), (8, some ⟨.int .i64, x8⟩)] (⟨retK slices_IndexFunc_47.rs slices_IndexFunc_47.ps slices_IndexFunc_47.r, [(0, K1)]⟩ : Ks slices_IndexFunc_47.R) (slices_IndexFunc_47.Kb2 Kr2)))
  else (K1 []) : Option slices_IndexFunc_47.R) := by kernel_rfl
theorem slices_IndexFunc_47.l2_ok (n : Nat) (k : Nat) : ∀ (x0 : List DRecord) (x1 : Int × Unit) (x7 : Int) (x8 : Int), loopEv [0, 1, 7, 8] (fun s K => ev (slices_IndexFunc_47.cb2 n) s (⟨retK slices_IndexFunc_47.rs slices_IndexFunc_47.ps slices_IndexFunc_47.r, [(0, (slices_IndexFunc_47.K1 n))]⟩ : Ks slices_IndexFunc_47.R) K) k [(0, some ⟨.slB .U false TRecord, x0⟩), (1, some ⟨.fn 33 (.pair (.cref (.int .u32)) .unit), x1⟩), (7, some ⟨.int .i64, x7⟩), (8, some ⟨.int .i64, x8⟩)] = slices_IndexFunc_47.l2 n k x0 x1 x7 x8 := by
  induction k with
  | zero => intros; rfl
  | succ k ih =>
    intro x0 x1 x7 x8
    exact (slices_IndexFunc_47.wb2 n (fun st => loopEv [0, 1, 7, 8] (fun s K => ev (slices_IndexFunc_47.cb2 n) s (⟨retK slices_IndexFunc_47.rs slices_IndexFunc_47.ps slices_IndexFunc_47.r, [(0, (slices_IndexFunc_47.K1 n))]⟩ : Ks slices_IndexFunc_47.R) K) k st) x0 x1 x7 x8 (slices_IndexFunc_47.K1 n) (slices_IndexFunc_47.c3 n)).trans (by simp -implicitDefEqProofs only [slices_IndexFunc_47.l2, slices_IndexFunc_47.s3 n (fun st => loopEv [0, 1, 7, 8] (fun s K => ev (slices_IndexFunc_47.cb2 n) s (⟨retK slices_IndexFunc_47.rs slices_IndexFunc_47.ps slices_IndexFunc_47.r, [(0, (slices_IndexFunc_47.K1 n))]⟩ : Ks slices_IndexFunc_47.R) K) k st) (slices_IndexFunc_47.l2 n k) ih, slices_IndexFunc_47.q1_0 n] <;> kernel_rfl)
noncomputable def slices_IndexFunc_47.d (n : Nat) (X1 Y2 : XC) : XC :=
  (.seq (.reg (.op (.mv 4 (.c ⟨.int .i64, ((0 : Int) : Int)⟩)) none <| .nil)) <|
  (.seq (.aft (.seq (.reg (.op (.mv 6 (.t 0)) none <| .op (.len 7 (.t 6) false) none <| .op (.mv 8 (.c ⟨.int .i64, ((0 : Int) : Int)⟩)) none <| .nil)) <|
  (.block 0 (.pre [.keep [0, 1, 7, 8]] (.loop n [0, 1, 7, 8] Y2)))) [.keep []]) X1))
noncomputable abbrev slices_IndexFunc_47.c (n : Nat) : XC := slices_IndexFunc_47.d n (slices_IndexFunc_47.c1 n) (slices_IndexFunc_47.cb2 n)
noncomputable def slices_IndexFunc_47.f (n : Nat) (a0 : List DRecord) (a1 : Int × Unit) : Option Int :=
  slices_IndexFunc_47.l2 n n a0 a1 (a0.length : Int) (0 : Int)
theorem slices_IndexFunc_47.w (n : Nat) (a0 : List DRecord) (a1 : Int × Unit) (X1 Y2 : XC) : evFn (slices_IndexFunc_47.d n X1 Y2) slices_IndexFunc_47.rs slices_IndexFunc_47.ps slices_IndexFunc_47.r (a0, a1, ()) =
  (loopEv [0, 1, 7, 8] (fun s K => ev Y2 s (⟨retK slices_IndexFunc_47.rs slices_IndexFunc_47.ps slices_IndexFunc_47.r, [(0, (slices_IndexFunc_47.H1 n X1))]⟩ : Ks slices_IndexFunc_47.R) K) n [(0, some ⟨.slB .U false TRecord, a0⟩), (1, some ⟨.fn 33 (.pair (.cref (.int .u32)) .unit), a1⟩), (7, some ⟨.int .i64, (a0.length : Int)⟩), (8, some ⟨.int .i64, (0 : Int)⟩)] : Option slices_IndexFunc_47.R) := by kernel_rfl
theorem slices_IndexFunc_47.ok (n : Nat) (a0 : List DRecord) (a1 : Int × Unit) : evFn (slices_IndexFunc_47.c n) slices_IndexFunc_47.rs slices_IndexFunc_47.ps slices_IndexFunc_47.r (a0, a1, ()) = slices_IndexFunc_47.f n a0 a1 := (slices_IndexFunc_47.w n a0 a1 (slices_IndexFunc_47.c1 n) (slices_IndexFunc_47.cb2 n)).trans (by simp -implicitDefEqProofs only [slices_IndexFunc_47.f, slices_IndexFunc_47.l2_ok n] <;> kernel_rfl)
noncomputable def slices_IndexFunc_47.sp (n : Nat) : FSpec := { f := 47, ps := slices_IndexFunc_47.ps, r := slices_IndexFunc_47.r, run := fun x => slices_IndexFunc_47.f n x.1 x.2.1 }
theorem slices_IndexFunc_47.calls (n : Nat) : (slices_IndexFunc_47.c n).calls = [cml_Optimise_1.sp n] := by kernel_rfl
theorem slices_IndexFunc_47.fits (n : Nat) : fnB tab hd Try.f47 (slices_IndexFunc_47.c n) slices_IndexFunc_47.rs (slices_IndexFunc_47.sp n).ps (slices_IndexFunc_47.sp n).r = true := by kernel_rfl
theorem slices_IndexFunc_47.sound (n : Nat) : Sound Try.prog (slices_IndexFunc_47.sp n) := by
  refine fnB_sound tabOk eqFacts mixed (fn := Try.f47) (c := slices_IndexFunc_47.c n) (rs := slices_IndexFunc_47.rs) (by kernel_rfl) ?_ (slices_IndexFunc_47.fits n) ?_
  · rw [slices_IndexFunc_47.calls]
    intro s hs
    simp only [List.mem_cons, List.not_mem_nil, or_false] at hs
    rcases hs with rfl
    · exact cml_Optimise_1.meets n
  · rintro ⟨a0, a1, ⟨⟩⟩ y h
    exact (slices_IndexFunc_47.ok n a0 a1).trans h
theorem slices_IndexFunc_47.meets (n : Nat) : Meets Try.prog (slices_IndexFunc_47.sp n) := (slices_IndexFunc_47.sound n).meets
/-! slices.DeleteFunc[[]backwater/api.Record,backwater/api.Record] -/
abbrev slices_DeleteFunc_31.ps : List (Ty × Bool) := [(.slX .U TRecord, false), (.fn 33 (.pair (.cref (.int .u32)) .unit), false)]
abbrev slices_DeleteFunc_31.r : Ty := .slX .U TRecord
abbrev slices_DeleteFunc_31.rs : List RV := [.t 4]
abbrev slices_DeleteFunc_31.R : Type := (rtOf slices_DeleteFunc_31.ps slices_DeleteFunc_31.r).den
noncomputable def slices_DeleteFunc_31.d1 (n : Nat) : XC :=
  (.seq (.reg (.op (.als 36 0) none <| .op (.mv 37 (.t 5)) none <| .op (.slcT 38 36 (.t 37) 9) none <| .op (.clr 38 ⟨TRecord, ((((0 : Int), (0 : Int), (0 : Int), ([] : List Int), (0 : Int), ([] : List Int), (0 : Int), ([] : List Int), ()), (0 : Int), ()) : DRecord)⟩ 88) none <| .nil)) <|
  (.seq (.reg (.op (.take 39 0) none <| .op (.mv 40 (.t 5)) none <| .op (.slcX 41 39 (.t 40) 9) none <| .op (.take 4 41) none <| .nil)) <|
  .ret))
noncomputable abbrev slices_DeleteFunc_31.c1 (n : Nat) : XC := slices_DeleteFunc_31.d1 n
noncomputable def slices_DeleteFunc_31.j1 (n : Nat) (x0 : List DRecord) (x5 : Int) : Option (List DRecord) :=
  sliceK x5 (x0.length : Int) x0.length (eqK (x5 + ((x0.length : Int) - x5)) (x0.length : Int) (sliceK 0 x5 (x0.take (x5).toNat ++ List.replicate (((x0.length : Int) - x5)).toNat (((0 : Int), (0 : Int), (0 : Int), ([] : List Int), (0 : Int), ([] : List Int), (0 : Int), ([] : List Int), ()), (0 : Int), ())).length (some ((x0.take (x5).toNat ++ List.replicate (((x0.length : Int) - x5)).toNat (((0 : Int), (0 : Int), (0 : Int), ([] : List Int), (0 : Int), ([] : List Int), (0 : Int), ([] : List Int), ()), (0 : Int), ())).take (x5).toNat))))
theorem slices_DeleteFunc_31.s1 (n : Nat) (x0 : List DRecord) (x5 : Int) : ev (slices_DeleteFunc_31.c1 n) [(0, some ⟨.slX .U TRecord, x0⟩), (5, some ⟨.int .i64, x5⟩)] (⟨retK slices_DeleteFunc_31.rs slices_DeleteFunc_31.ps slices_DeleteFunc_31.r, []⟩ : Ks slices_DeleteFunc_31.R) (retK slices_DeleteFunc_31.rs slices_DeleteFunc_31.ps slices_DeleteFunc_31.r) = slices_DeleteFunc_31.j1 n x0 x5 := by kernel_rfl
noncomputable def slices_DeleteFunc_31.H1 (n : Nat) (X : XC) : St → Option slices_DeleteFunc_31.R := fun st => ghK [.keep [0, 5]] st fun st => ev X st (⟨retK slices_DeleteFunc_31.rs slices_DeleteFunc_31.ps slices_DeleteFunc_31.r, []⟩ : Ks slices_DeleteFunc_31.R) (retK slices_DeleteFunc_31.rs slices_DeleteFunc_31.ps slices_DeleteFunc_31.r)
noncomputable abbrev slices_DeleteFunc_31.K1 (n : Nat) : St → Option slices_DeleteFunc_31.R := slices_DeleteFunc_31.H1 n (slices_DeleteFunc_31.c1 n)
noncomputable def slices_DeleteFunc_31.Kb2 (Kr2 : St → Option slices_DeleteFunc_31.R) : St → Option slices_DeleteFunc_31.R := fun st => ghK [.keep [0, 1, 5, 6]] st Kr2
noncomputable def slices_DeleteFunc_31.d3 (n : Nat) : XC :=
  (.aft (.reg (.op (.mv 20 (.t 6)) none <| .op (.bin 21 .add (.t 20) (.c ⟨.int .i64, ((1 : Int) : Int)⟩)) none <| .op (.mv 6 (.t 21)) none <| .nil)) [.keep [0, 1, 5, 6]])
noncomputable abbrev slices_DeleteFunc_31.c3 (n : Nat) : XC := slices_DeleteFunc_31.d3 n
theorem slices_DeleteFunc_31.qb2_0 (Kr2 : St → Option slices_DeleteFunc_31.R) (kr2 : (List DRecord) → (Int × Unit) → Int → Int → Option (List DRecord)) (hK2 : ∀ (x0 : List DRecord) (x1 : Int × Unit) (x5 : Int) (x6 : Int), Kr2 [(0, some ⟨.slX .U TRecord, x0⟩), (1, some ⟨.fn 33 (.pair (.cref (.int .u32)) .unit), x1⟩), (5, some ⟨.int .i64, x5⟩), (6, some ⟨.int .i64, x6⟩)] = kr2 x0 x1 x5 x6) (x0 : List DRecord) (x1 : Int × Unit) (x5 : Int) (x6 : Int) : slices_DeleteFunc_31.Kb2 Kr2 [(0, some ⟨.slX .U TRecord, x0⟩), (1, some ⟨.fn 33 (.pair (.cref (.int .u32)) .unit), x1⟩), (5, some ⟨.int .i64, x5⟩), (6, some ⟨.int .i64, x6⟩)] = kr2 x0 x1 x5 x6 := (by kernel_rfl : _ = Kr2 [(0, some ⟨.slX .U TRecord, x0⟩), (1, some ⟨.fn 33 (.pair (.cref (.int .u32)) .unit), x1⟩), (5, some ⟨.int .i64, x5⟩), (6, some ⟨.int .i64, x6⟩)]).trans (hK2 x0 x1 x5 x6)
noncomputable def slices_DeleteFunc_31.j3 (n : Nat) (kr2 : (List DRecord) → (Int × Unit) → Int → Int → Option (List DRecord)) (x0 : List DRecord) (x1 : Int × Unit) (x5 : Int) (x6 : Int) : Option (List DRecord) :=
  kr2 x0 x1 x5 (IntKind.i64.wrap (x6 + (1 : Int)))
theorem slices_DeleteFunc_31.w3 (n : Nat) (Kr2 : St → Option slices_DeleteFunc_31.R) (x0 : List DRecord) (x1 : Int × Unit) (x5 : Int) (x6 : Int) (K1 : St → Option slices_DeleteFunc_31.R) (Kb2 : St → Option slices_DeleteFunc_31.R) : ev (slices_DeleteFunc_31.d3 n) [(0, some ⟨.slX .U TRecord, x0⟩), (1, some ⟨.fn 33 (.pair (.cref (.int .u32)) .unit), x1⟩), (5, some ⟨.int .i64, x5⟩), (6, some ⟨.int .i64, x6⟩)] (⟨retK slices_DeleteFunc_31.rs slices_DeleteFunc_31.ps slices_DeleteFunc_31.r, [(0, K1)]⟩ : Ks slices_DeleteFunc_31.R) Kb2 =
  (Kb2 [(0, some ⟨.slX .U TRecord, x0⟩), (1, some ⟨.fn 33 (.pair (.cref (.int .u32)) .unit), x1⟩), (5, some ⟨.int .i64, x5⟩), (6, some ⟨.int .i64, (IntKind.i64.wrap (x6 + (1 : Int)))⟩)] : Option slices_DeleteFunc_31.R) := by kernel_rfl
theorem slices_DeleteFunc_31.s3 (n : Nat) (Kr2 : St → Option slices_DeleteFunc_31.R) (kr2 : (List DRecord) → (Int × Unit) → Int → Int → Option (List DRecord)) (hK2 : ∀ (x0 : List DRecord) (x1 : Int × Unit) (x5 : Int) (x6 : Int), Kr2 [(0, some ⟨.slX .U TRecord, x0⟩), (1, some ⟨.fn 33 (.pair (.cref (.int .u32)) .unit), x1⟩), (5, some ⟨.int .i64, x5⟩), (6, some ⟨.int .i64, x6⟩)] = kr2 x0 x1 x5 x6) (x0 : List DRecord) (x1 : Int × Unit) (x5 : Int) (x6 : Int) : ev (slices_DeleteFunc_31.c3 n) [(0, some ⟨.slX .U TRecord, x0⟩), (1, some ⟨.fn 33 (.pair (.cref (.int .u32)) .unit), x1⟩), (5, some ⟨.int .i64, x5⟩), (6, some ⟨.int .i64, x6⟩)] (⟨retK slices_DeleteFunc_31.rs slices_DeleteFunc_31.ps slices_DeleteFunc_31.r, [(0, (slices_DeleteFunc_31.K1 n))]⟩ : Ks slices_DeleteFunc_31.R) (slices_DeleteFunc_31.Kb2 Kr2) = slices_DeleteFunc_31.j3 n kr2 x0 x1 x5 x6 := (slices_DeleteFunc_31.w3 n Kr2 x0 x1 x5 x6 (slices_DeleteFunc_31.K1 n) (slices_DeleteFunc_31.Kb2 Kr2)).trans (by simp -implicitDefEqProofs only [slices_DeleteFunc_31.j3, slices_DeleteFunc_31.qb2_0 Kr2 kr2 hK2] <;> kernel_rfl)
noncomputable def slices_DeleteFunc_31.H3 (n : Nat) (K1 : St → Option slices_DeleteFunc_31.R) (Kb2 : St → Option slices_DeleteFunc_31.R) (X : XC) : St → Option slices_DeleteFunc_31.R := fun st => ghK [.keep [0, 1, 5, 6]] st fun st => ev X st (⟨retK slices_DeleteFunc_31.rs slices_DeleteFunc_31.ps slices_DeleteFunc_31.r, [(0, K1)]⟩ : Ks slices_DeleteFunc_31.R) Kb2
noncomputable abbrev slices_DeleteFunc_31.K3 (n : Nat) (Kr2 : St → Option slices_DeleteFunc_31.R) : St → Option slices_DeleteFunc_31.R := slices_DeleteFunc_31.H3 n (slices_DeleteFunc_31.K1 n) (slices_DeleteFunc_31.Kb2 Kr2) (slices_DeleteFunc_31.c3 n)
noncomputable def slices_DeleteFunc_31.db2 (n : Nat) (X3 : XC) : XC :=
  (.aft (.seq (.seq (.reg (.op (.mv 16 (.t 6)) none <| .op (.bor 17 0) none <| .op (.len 18 (.t 17) false) none <| .op (.bin 19 .lss (.t 16) (.t 18)) none <| .nil)) <|
  (.cond (.t 19)
  .skip
  (.pre [.keep [0, 5]] (.exit 0)))) <|
  (.seq (.aft (.block 1 (.seq (.reg (.op (.bor 22 0) none <| .op (.mv 23 (.t 6)) none <| .op (.idxA 24 (.t 22) (.t 23) 9 0) none <| .op (.ld 25 24 9 true) none <| .op (.alloc 7 ⟨TRecord, ((((0 : Int), (0 : Int), (0 : Int), ([] : List Int), (0 : Int), ([] : List Int), (0 : Int), ([] : List Int), ()), (0 : Int), ()) : DRecord)⟩) none <| .op (.st 7 (.t 25) 9) none <| .nil)) <|
  (.seq (.reg (.op (.mv 26 (.t 1)) none <| .op (.ld 27 7 9 true) none <| .op (.callV (some 28) (cml_Optimise_1.sp n) 26 42 [.v (.t 27)]) none <| .op (.un 29 .not (.t 28)) none <| .nil)) <|
  (.cond (.t 29)
  (.seq (.pre [.keep [0, 1, 5, 6, 7]] (.reg (.op (.als 30 0) none <| .op (.mv 31 (.t 5)) none <| .op (.ld 32 7 9 true) none <| .op (.idxE 33 (.t 30) (.t 31) 9) none <| .op (.stE 33 (.t 32) 9) none <| .nil))) <|
  (.reg (.op (.mv 34 (.t 5)) none <| .op (.bin 35 .add (.t 34) (.c ⟨.int .i64, ((1 : Int) : Int)⟩)) none <| .op (.mv 5 (.t 35)) none <| .nil)))
  .skip)))) [.keep [0, 1, 5, 6]]) X3)) [.keep [0, 1, 5, 6]])
noncomputable abbrev slices_DeleteFunc_31.cb2 (n : Nat) : XC := slices_DeleteFunc_31.db2 n (slices_DeleteFunc_31.c3 n)
theorem slices_DeleteFunc_31.q1_0_r (n : Nat) (X : XC) (x0 : List DRecord) (x5 : Int) : slices_DeleteFunc_31.H1 n X [(0, some ⟨.slX .U TRecord, x0⟩), (5, some ⟨.int .i64, x5⟩)] = (ev X [(0, some ⟨.slX .U TRecord, x0⟩), (5, some ⟨.int .i64, x5⟩)] (⟨retK slices_DeleteFunc_31.rs slices_DeleteFunc_31.ps slices_DeleteFunc_31.r, []⟩ : Ks slices_DeleteFunc_31.R) (retK slices_DeleteFunc_31.rs slices_DeleteFunc_31.ps slices_DeleteFunc_31.r) : Option slices_DeleteFunc_31.R) := by kernel_rfl
theorem slices_DeleteFunc_31.q1_0 (n : Nat) (x0 : List DRecord) (x5 : Int) : slices_DeleteFunc_31.K1 n [(0, some ⟨.slX .U TRecord, x0⟩), (5, some ⟨.int .i64, x5⟩)] = slices_DeleteFunc_31.j1 n x0 x5 := (slices_DeleteFunc_31.q1_0_r n (slices_DeleteFunc_31.c1 n) x0 x5).trans (slices_DeleteFunc_31.s1 n x0 x5)
noncomputable def slices_DeleteFunc_31.l2 (n : Nat) : Nat → (List DRecord) → (Int × Unit) → Int → Int → Option (List DRecord)
  | 0, _, _, _, _ => none
  | k + 1, x0, x1, x5, x6 =>
  bif (decide (x6 < (x0.length : Int))) then (idxK x0 x6 fun e1 => (cml_Optimise_1.f n ((e1.1.1, e1.1.2.1, e1.1.2.2.1, e1.1.2.2.2.1, e1.1.2.2.2.2.1, e1.1.2.2.2.2.2.1, e1.1.2.2.2.2.2.2.1, e1.1.2.2.2.2.2.2.2.1, e1.1.2.2.2.2.2.2.2.2), e1.2.1, e1.2.2) x1.1).bind fun r2 => bif (!r2) then (inK' x5 x0.length (idxK x0 x5 fun e3 => slices_DeleteFunc_31.j3 n (slices_DeleteFunc_31.l2 n k) (lset x0 x5 e1) x1 (IntKind.i64.wrap (x5 + (1 : Int))) x6))
  else (slices_DeleteFunc_31.j3 n (slices_DeleteFunc_31.l2 n k) x0 x1 x5 x6))
  else (slices_DeleteFunc_31.j1 n x0 x5)
theorem slices_DeleteFunc_31.wb2 (n : Nat) (Kr2 : St → Option slices_DeleteFunc_31.R) (x0 : List DRecord) (x1 : Int × Unit) (x5 : Int) (x6 : Int) (K1 : St → Option slices_DeleteFunc_31.R) (X3 : XC) : ev (slices_DeleteFunc_31.db2 n X3) (keepSt [(0, some ⟨.slX .U TRecord, x0⟩), (1, some ⟨.fn 33 (.pair (.cref (.int .u32)) .unit), x1⟩), (5, some ⟨.int .i64, x5⟩), (6, some ⟨.int .i64, x6⟩)] [0, 1, 5, 6]) (⟨retK slices_DeleteFunc_31.rs slices_DeleteFunc_31.ps slices_DeleteFunc_31.r, [(0, K1)]⟩ : Ks slices_DeleteFunc_31.R) Kr2 =
  (bif (decide (x6 < (x0.length : Int))) then (idxK x0 x6 fun e1 => (cml_Optimise_1.f n ((e1.1.1, e1.1.2.1, e1.1.2.2.1, e1.1.2.2.2.1, e1.1.2.2.2.2.1, e1.1.2.2.2.2.2.1, e1.1.2.2.2.2.2.2.1, e1.1.2.2.2.2.2.2.2.1, e1.1.2.2.2.2.2.2.2.2), e1.2.1, e1.2.2) x1.1).bind fun r2 => bif (!r2) then (inK' x5 x0.length (idxK x0 x5 fun e3 => ev X3 [(0, some ⟨.slX .U TRecord, ((lset x0 x5 e1) : List DRecord)⟩), (1, some ⟨.fn 33 (.pair (.cref (.int .u32)) .unit), x1⟩), (5, some ⟨.int .i64, (IntKind.i64.wrap (x5 + (1 : Int)))⟩), (6, some ⟨.int .i64, x6⟩)] (⟨retK slices_DeleteFunc_31.rs slices_DeleteFunc_31.ps slices_DeleteFunc_31.r, [(0, K1)]⟩ : Ks slices_DeleteFunc_31.R) (slices_DeleteFunc_31.Kb2 Kr2)))
  else (ev X3 [(0, some ⟨.slX .U TRecord, x0⟩), (1, some ⟨.fn 33 (.pair (.cref (.int .u32)) .unit), x1⟩), (5, some ⟨.int .i64, x5⟩), (6, some ⟨.int .i64, x6⟩)] (⟨retK slices_DeleteFunc_31.rs slices_DeleteFunc_31.ps slices_DeleteFunc_31.r, [(0, K1)]⟩ : Ks slices_DeleteFunc_31.R) (slices_DeleteFunc_31.Kb2 Kr2)))
  else (K1 [(0, some ⟨.slX .U TRecord, x0⟩), (5, some ⟨.int .i64, x5⟩)]) : Option slices_DeleteFunc_31.R) := by kernel_rfl
theorem slices_DeleteFunc_31.l2_ok (n : Nat) (k : Nat) : ∀ (x0 : List DRecord) (x1 : Int × Unit) (x5 : Int) (x6 : Int), loopEv [0, 1, 5, 6] (fun s K => ev (slices_DeleteFunc_31.cb2 n) s (⟨retK slices_DeleteFunc_31.rs slices_DeleteFunc_31.ps slices_DeleteFunc_31.r, [(0, (slices_DeleteFunc_31.K1 n))]⟩ : Ks slices_DeleteFunc_31.R) K) k [(0, some ⟨.slX .U TRecord, x0⟩), (1, some ⟨.fn 33 (.pair (.cref (.int .u32)) .unit), x1⟩), (5, some ⟨.int .i64, x5⟩), (6, some ⟨.int .i64, x6⟩)] = slices_DeleteFunc_31.l2 n k x0 x1 x5 x6 := by
  induction k with
  | zero => intros; rfl
  | succ k ih =>
    intro x0 x1 x5 x6
    exact (slices_DeleteFunc_31.wb2 n (fun st => loopEv [0, 1, 5, 6] (fun s K => ev (slices_DeleteFunc_31.cb2 n) s (⟨retK slices_DeleteFunc_31.rs slices_DeleteFunc_31.ps slices_DeleteFunc_31.r, [(0, (slices_DeleteFunc_31.K1 n))]⟩ : Ks slices_DeleteFunc_31.R) K) k st) x0 x1 x5 x6 (slices_DeleteFunc_31.K1 n) (slices_DeleteFunc_31.c3 n)).trans (by simp -implicitDefEqProofs only [slices_DeleteFunc_31.l2, slices_DeleteFunc_31.s3 n (fun st => loopEv [0, 1, 5, 6] (fun s K => ev (slices_DeleteFunc_31.cb2 n) s (⟨retK slices_DeleteFunc_31.rs slices_DeleteFunc_31.ps slices_DeleteFunc_31.r, [(0, (slices_DeleteFunc_31.K1 n))]⟩ : Ks slices_DeleteFunc_31.R) K) k st) (slices_DeleteFunc_31.l2 n k) ih, slices_DeleteFunc_31.q1_0 n] <;> kernel_rfl)
noncomputable def slices_DeleteFunc_31.d (n : Nat) (X1 Y2 : XC) : XC :=
  (.seq (.reg (.op (.mv 4 (.c ⟨.nil 0, ()⟩)) none <| .nil)) <|
  (.seq (.reg (.op (.bor 8 0) none <| .op (.mv 9 (.t 1)) none <| .op (.call (some 10) (slices_IndexFunc_47.sp n) [.v (.t 8), .v (.t 9)]) none <| .op (.mv 5 (.t 10)) none <| .nil)) <|
  (.seq (.seq (.reg (.op (.mv 11 (.t 5)) none <| .op (.bin 12 .eql (.t 11) (.c ⟨.int .i64, ((-1 : Int) : Int)⟩)) none <| .nil)) <|
  (.cond (.t 12)
  (.seq (.reg (.op (.take 13 0) none <| .op (.take 4 13) none <| .nil)) <|
  .ret)
  .skip)) <|
  (.seq (.aft (.seq (.reg (.op (.mv 14 (.t 5)) none <| .op (.bin 15 .add (.t 14) (.c ⟨.int .i64, ((1 : Int) : Int)⟩)) none <| .op (.mv 6 (.t 15)) none <| .nil)) <|
  (.block 0 (.pre [.keep [0, 1, 5, 6]] (.loop n [0, 1, 5, 6] Y2)))) [.keep [0, 5]]) X1))))
noncomputable abbrev slices_DeleteFunc_31.c (n : Nat) : XC := slices_DeleteFunc_31.d n (slices_DeleteFunc_31.c1 n) (slices_DeleteFunc_31.cb2 n)
noncomputable def slices_DeleteFunc_31.f (n : Nat) (a0 : List DRecord) (a1 : Int × Unit) : Option (List DRecord) :=
  (slices_IndexFunc_47.f n a0 a1).bind fun r1 => bif (decide (r1 = (-1 : Int))) then (some a0)
  else (slices_DeleteFunc_31.l2 n n a0 a1 r1 (IntKind.i64.wrap (r1 + (1 : Int))))
theorem slices_DeleteFunc_31.w (n : Nat) (a0 : List DRecord) (a1 : Int × Unit) (X1 Y2 : XC) : evFn (slices_DeleteFunc_31.d n X1 Y2) slices_DeleteFunc_31.rs slices_DeleteFunc_31.ps slices_DeleteFunc_31.r (a0, a1, ()) =
  ((slices_IndexFunc_47.f n a0 a1).bind fun r1 => bif (decide (r1 = (-1 : Int))) then (some a0)
  else (loopEv [0, 1, 5, 6] (fun s K => ev Y2 s (⟨retK slices_DeleteFunc_31.rs slices_DeleteFunc_31.ps slices_DeleteFunc_31.r, [(0, (slices_DeleteFunc_31.H1 n X1))]⟩ : Ks slices_DeleteFunc_31.R) K) n [(0, some ⟨.slX .U TRecord, a0⟩), (1, some ⟨.fn 33 (.pair (.cref (.int .u32)) .unit), a1⟩), (5, some ⟨.int .i64, r1⟩), (6, some ⟨.int .i64, (IntKind.i64.wrap (r1 + (1 : Int)))⟩)]) : Option slices_DeleteFunc_31.R) := by kernel_rfl
theorem slices_DeleteFunc_31.ok (n : Nat) (a0 : List DRecord) (a1 : Int × Unit) : evFn (slices_DeleteFunc_31.c n) slices_DeleteFunc_31.rs slices_DeleteFunc_31.ps slices_DeleteFunc_31.r (a0, a1, ()) = slices_DeleteFunc_31.f n a0 a1 := (slices_DeleteFunc_31.w n a0 a1 (slices_DeleteFunc_31.c1 n) (slices_DeleteFunc_31.cb2 n)).trans (by simp -implicitDefEqProofs only [slices_DeleteFunc_31.f, slices_DeleteFunc_31.l2_ok n] <;> kernel_rfl)
noncomputable def slices_DeleteFunc_31.sp (n : Nat) : FSpec := { f := 31, ps := slices_DeleteFunc_31.ps, r := slices_DeleteFunc_31.r, run := fun x => slices_DeleteFunc_31.f n x.1 x.2.1 }
theorem slices_DeleteFunc_31.calls (n : Nat) : (slices_DeleteFunc_31.c n).calls = [slices_IndexFunc_47.sp n, cml_Optimise_1.sp n] := by kernel_rfl
theorem slices_DeleteFunc_31.fits (n : Nat) : fnB tab hd Try.f31 (slices_DeleteFunc_31.c n) slices_DeleteFunc_31.rs (slices_DeleteFunc_31.sp n).ps (slices_DeleteFunc_31.sp n).r = true := by kernel_rfl
theorem slices_DeleteFunc_31.sound (n : Nat) : Sound Try.prog (slices_DeleteFunc_31.sp n) := by
  refine fnB_sound tabOk eqFacts mixed (fn := Try.f31) (c := slices_DeleteFunc_31.c n) (rs := slices_DeleteFunc_31.rs) (by kernel_rfl) ?_ (slices_DeleteFunc_31.fits n) ?_
  · rw [slices_DeleteFunc_31.calls]
    intro s hs
    simp only [List.mem_cons, List.not_mem_nil, or_false] at hs
    rcases hs with rfl | rfl
    · exact slices_IndexFunc_47.meets n
    · exact cml_Optimise_1.meets n
  · rintro ⟨a0, a1, ⟨⟩⟩ y h
    exact (slices_DeleteFunc_31.ok n a0 a1).trans h
theorem slices_DeleteFunc_31.meets (n : Nat) : Meets Try.prog (slices_DeleteFunc_31.sp n) := (slices_DeleteFunc_31.sound n).meets
/-! slices.Grow[[]backwater/api.Record,backwater/api.Record] -/
abbrev slices_Grow.ps : List (Ty × Bool) := [(.nil 0, false), (.int .i64, false)]
abbrev slices_Grow.r : Ty := .slX .U TRecord
abbrev slices_Grow.rs : List RV := [.t 4]
abbrev slices_Grow.R : Type := (rtOf slices_Grow.ps slices_Grow.r).den
noncomputable def slices_Grow.d1 (n : Nat) : XC :=
  (.seq (.reg (.op (.take 26 0) none <| .op (.take 4 26) none <| .nil)) <|
  .ret)
noncomputable abbrev slices_Grow.c1 (n : Nat) : XC := slices_Grow.d1 n
noncomputable def slices_Grow.j1 (n : Nat) (x0 : List DRecord) : Option (List DRecord) :=
  some x0
theorem slices_Grow.s1 (n : Nat) (x0 : List DRecord) : ev (slices_Grow.c1 n) [(0, some ⟨.slX .U TRecord, x0⟩)] (⟨retK slices_Grow.rs slices_Grow.ps slices_Grow.r, []⟩ : Ks slices_Grow.R) (retK slices_Grow.rs slices_Grow.ps slices_Grow.r) = slices_Grow.j1 n x0 := by kernel_rfl
noncomputable def slices_Grow.H1 (n : Nat) (X : XC) : St → Option slices_Grow.R := fun st => ghK [.coe 0 (.slX .U TRecord), .keep [0]] st fun st => ev X st (⟨retK slices_Grow.rs slices_Grow.ps slices_Grow.r, []⟩ : Ks slices_Grow.R) (retK slices_Grow.rs slices_Grow.ps slices_Grow.r)
noncomputable abbrev slices_Grow.K1 (n : Nat) : St → Option slices_Grow.R := slices_Grow.H1 n (slices_Grow.c1 n)
noncomputable def slices_Grow.d (n : Nat) (X1 : XC) : XC :=
  (.seq (.reg (.op (.mv 4 (.c ⟨.nil 0, ()⟩)) none <| .nil)) <|
  (.seq (.seq (.reg (.op (.mv 5 (.t 1)) none <| .op (.bin 6 .lss (.t 5) (.c ⟨.int .i64, ((0 : Int) : Int)⟩)) none <| .nil)) <|
  (.cond (.t 6)
  .dead
  .skip)) <|
  (.seq (.aft (.seq (.reg (.op (.mv 8 (.t 1)) none <| .op (.mv 9 (.t 0)) none <| .op (.capN 10 (.t 9)) none <| .op (.mv 11 (.t 0)) none <| .op (.len 12 (.t 11) false) none <| .op (.bin 13 .sub (.t 10) (.t 12)) none <| .op (.bin 14 .sub (.t 8) (.t 13)) none <| .op (.mv 1 (.t 14)) none <| .nil)) <|
  (.seq (.reg (.op (.mv 15 (.t 1)) none <| .op (.bin 16 .gtr (.t 15) (.c ⟨.int .i64, ((0 : Int) : Int)⟩)) none <| .nil)) <|
  (.cond (.t 16)
  (.pre [.keep [0, 1]] (.reg (.op (.mv 17 (.t 0)) none <| .op (.mv 18 (.t 0)) none <| .op (.capN 19 (.t 18)) none <| .op (.slcN 20 (.t 17) none (some (.t 19)) 9) none <| .op (.mv 21 (.t 1)) none <| .op (.appZ 22 (.t 20) (.t 21) ⟨TRecord, ((((0 : Int), (0 : Int), (0 : Int), ([] : List Int), (0 : Int), ([] : List Int), (0 : Int), ([] : List Int), ()), (0 : Int), ()) : DRecord)⟩ 88) none <| .op (.mv 23 (.t 0)) none <| .op (.len 24 (.t 23) false) none <| .op (.slcX 25 22 (.t 24) 9) none <| .op (.take 0 25) none <| .nil)))
  .skip))) [.coe 0 (.slX .U TRecord), .keep [0]]) X1)))
noncomputable abbrev slices_Grow.c (n : Nat) : XC := slices_Grow.d n (slices_Grow.c1 n)
noncomputable def slices_Grow.f (n : Nat) (a0 : Unit) (a1 : Int) : Option (List DRecord) :=
  bif (decide (a1 < (0 : Int))) then (none)
  else (bif (decide ((0 : Int) < (IntKind.i64.wrap (a1 - (IntKind.i64.wrap ((0 : Int) - (0 : Int))))))) then (sliceK 0 (0 : Int) 0 (geK (IntKind.i64.wrap (a1 - (IntKind.i64.wrap ((0 : Int) - (0 : Int))))) (appK 0 ((IntKind.i64.wrap (a1 - (IntKind.i64.wrap ((0 : Int) - (0 : Int)))))).toNat 88 (sliceK 0 (0 : Int) (List.replicate ((IntKind.i64.wrap (a1 - (IntKind.i64.wrap ((0 : Int) - (0 : Int)))))).toNat (((0 : Int), (0 : Int), (0 : Int), ([] : List Int), (0 : Int), ([] : List Int), (0 : Int), ([] : List Int), ()), (0 : Int), ())).length (slices_Grow.j1 n ((List.replicate ((IntKind.i64.wrap (a1 - (IntKind.i64.wrap ((0 : Int) - (0 : Int)))))).toNat (((0 : Int), (0 : Int), (0 : Int), ([] : List Int), (0 : Int), ([] : List Int), (0 : Int), ([] : List Int), ()), (0 : Int), ())).take ((0 : Int)).toNat))))))
  else (slices_Grow.j1 n ([] : List DRecord)))
theorem slices_Grow.w (n : Nat) (a0 : Unit) (a1 : Int) (X1 : XC) : evFn (slices_Grow.d n X1) slices_Grow.rs slices_Grow.ps slices_Grow.r (a0, a1, ()) =
  (bif (decide (a1 < (0 : Int))) then (none)
  else (bif (decide ((0 : Int) < (IntKind.i64.wrap (a1 - (IntKind.i64.wrap ((0 : Int) - (0 : Int))))))) then (sliceK 0 (0 : Int) 0 (geK (IntKind.i64.wrap (a1 - (IntKind.i64.wrap ((0 : Int) - (0 : Int))))) (appK 0 ((IntKind.i64.wrap (a1 - (IntKind.i64.wrap ((0 : Int) - (0 : Int)))))).toNat 88 (sliceK 0 (0 : Int) (List.replicate ((IntKind.i64.wrap (a1 - (IntKind.i64.wrap ((0 : Int) - (0 : Int)))))).toNat (((0 : Int), (0 : Int), (0 : Int), ([] : List Int), (0 : Int), ([] : List Int), (0 : Int), ([] : List Int), ()), (0 : Int), ())).length (ev X1 [(0, some ⟨.slX .U TRecord, (((List.replicate ((IntKind.i64.wrap (a1 - (IntKind.i64.wrap ((0 : Int) - (0 : Int)))))).toNat (((0 : Int), (0 : Int), (0 : Int), ([] : List Int), (0 : Int), ([] : List Int), (0 : Int), ([] : List Int), ()), (0 : Int), ())).take ((0 : Int)).toNat) : List DRecord)⟩)] (⟨retK slices_Grow.rs slices_Grow.ps slices_Grow.r, []⟩ : Ks slices_Grow.R) (retK slices_Grow.rs slices_Grow.ps slices_Grow.r))))))
  else (ev X1 [(0, some ⟨.slX .U TRecord, (([] : List DRecord) : List DRecord)⟩)] (⟨retK slices_Grow.rs slices_Grow.ps slices_Grow.r, []⟩ : Ks slices_Grow.R) (retK slices_Grow.rs slices_Grow.ps slices_Grow.r))) : Option slices_Grow.R) := by kernel_rfl
theorem slices_Grow.ok (n : Nat) (a0 : Unit) (a1 : Int) : evFn (slices_Grow.c n) slices_Grow.rs slices_Grow.ps slices_Grow.r (a0, a1, ()) = slices_Grow.f n a0 a1 := (slices_Grow.w n a0 a1 (slices_Grow.c1 n)).trans (by simp -implicitDefEqProofs only [slices_Grow.f, slices_Grow.s1 n] <;> kernel_rfl)
noncomputable def slices_Grow.sp (n : Nat) : FSpec := { f := 48, ps := slices_Grow.ps, r := slices_Grow.r, run := fun x => slices_Grow.f n x.1 x.2.1 }
theorem slices_Grow.calls (n : Nat) : (slices_Grow.c n).calls = [] := by kernel_rfl
theorem slices_Grow.fits (n : Nat) : fnB tab hd Try.f48 (slices_Grow.c n) slices_Grow.rs (slices_Grow.sp n).ps (slices_Grow.sp n).r = true := by kernel_rfl
theorem slices_Grow.sound (n : Nat) : Sound Try.prog (slices_Grow.sp n) := by
  refine fnB_sound tabOk eqFacts mixed (fn := Try.f48) (c := slices_Grow.c n) (rs := slices_Grow.rs) (by kernel_rfl) ?_ (slices_Grow.fits n) ?_
  · rw [slices_Grow.calls]
    intro s hs; cases hs
  · rintro ⟨a0, a1, ⟨⟩⟩ y h
    exact (slices_Grow.ok n a0 a1).trans h
theorem slices_Grow.meets (n : Nat) : Meets Try.prog (slices_Grow.sp n) := (slices_Grow.sound n).meets
/-! slices.Concat[[]backwater/api.Record,backwater/api.Record] -/
abbrev slices_Concat.ps : List (Ty × Bool) := [(.slB .U false (.slB .U false TRecord), false)]
abbrev slices_Concat.r : Ty := .slX .U TRecord
abbrev slices_Concat.rs : List RV := [.t 2]
abbrev slices_Concat.R : Type := (rtOf slices_Concat.ps slices_Concat.r).den
noncomputable def slices_Concat.d2 (n : Nat) : XC :=
  (.seq (.reg (.op (.take 35 6) none <| .op (.take 2 35) none <| .nil)) <|
  .ret)
noncomputable abbrev slices_Concat.c2 (n : Nat) : XC := slices_Concat.d2 n
noncomputable def slices_Concat.j2 (n : Nat) (x6 : List DRecord) : Option (List DRecord) :=
  some x6
theorem slices_Concat.s2 (n : Nat) (x6 : List DRecord) : ev (slices_Concat.c2 n) [(6, some ⟨.slX .U TRecord, x6⟩)] (⟨retK slices_Concat.rs slices_Concat.ps slices_Concat.r, []⟩ : Ks slices_Concat.R) (retK slices_Concat.rs slices_Concat.ps slices_Concat.r) = slices_Concat.j2 n x6 := by kernel_rfl
noncomputable def slices_Concat.H2 (n : Nat) (X : XC) : St → Option slices_Concat.R := fun st => ghK [.keep [6]] st fun st => ev X st (⟨retK slices_Concat.rs slices_Concat.ps slices_Concat.r, []⟩ : Ks slices_Concat.R) (retK slices_Concat.rs slices_Concat.ps slices_Concat.r)
noncomputable abbrev slices_Concat.K2 (n : Nat) : St → Option slices_Concat.R := slices_Concat.H2 n (slices_Concat.c2 n)
noncomputable def slices_Concat.Kb3 (Kr3 : St → Option slices_Concat.R) : St → Option slices_Concat.R := fun st => ghK [.keep [6, 25, 26, 27]] st Kr3
noncomputable def slices_Concat.d4 (n : Nat) : XC :=
  (.aft (.reg (.op (.bin 34 .add (.t 27) (.c ⟨.int .i64, ((1 : Int) : Int)⟩)) none <| .op (.mv 27 (.t 34)) none <| .nil)) [.keep [6, 25, 26, 27]])
noncomputable abbrev slices_Concat.c4 (n : Nat) : XC := slices_Concat.d4 n
theorem slices_Concat.qb3_0 (Kr3 : St → Option slices_Concat.R) (kr3 : (List DRecord) → (List (List DRecord)) → Int → Int → Option (List DRecord)) (hK3 : ∀ (x6 : List DRecord) (x25 : List (List DRecord)) (x26 : Int) (x27 : Int), Kr3 [(6, some ⟨.slX .U TRecord, x6⟩), (25, some ⟨.slB .U false (.slB .U false TRecord), x25⟩), (26, some ⟨.int .i64, x26⟩), (27, some ⟨.int .i64, x27⟩)] = kr3 x6 x25 x26 x27) (x6 : List DRecord) (x25 : List (List DRecord)) (x26 : Int) (x27 : Int) : slices_Concat.Kb3 Kr3 [(6, some ⟨.slX .U TRecord, x6⟩), (25, some ⟨.slB .U false (.slB .U false TRecord), x25⟩), (26, some ⟨.int .i64, x26⟩), (27, some ⟨.int .i64, x27⟩)] = kr3 x6 x25 x26 x27 := (by kernel_rfl : _ = Kr3 [(6, some ⟨.slX .U TRecord, x6⟩), (25, some ⟨.slB .U false (.slB .U false TRecord), x25⟩), (26, some ⟨.int .i64, x26⟩), (27, some ⟨.int .i64, x27⟩)]).trans (hK3 x6 x25 x26 x27)
noncomputable def slices_Concat.j4 (n : Nat) (kr3 : (List DRecord) → (List (List DRecord)) → Int → Int → Option (List DRecord)) (x6 : List DRecord) (x25 : List (List DRecord)) (x26 : Int) (x27 : Int) : Option (List DRecord) :=
  kr3 x6 x25 x26 (IntKind.i64.wrap (x27 + (1 : Int)))
theorem slices_Concat.w4 (n : Nat) (Kr3 : St → Option slices_Concat.R) (x6 : List DRecord) (x25 : List (List DRecord)) (x26 : Int) (x27 : Int) (K2 : St → Option slices_Concat.R) (Kb3 : St → Option slices_Concat.R) : ev (slices_Concat.d4 n) [(6, some ⟨.slX .U TRecord, x6⟩), (25, some ⟨.slB .U false (.slB .U false TRecord), x25⟩), (26, some ⟨.int .i64, x26⟩), (27, some ⟨.int .i64, x27⟩)] (⟨retK slices_Concat.rs slices_Concat.ps slices_Concat.r, [(2, K2)]⟩ : Ks slices_Concat.R) Kb3 =
  (Kb3 [(6, some ⟨.slX .U TRecord, x6⟩), (25, some ⟨.slB .U false (.slB .U false TRecord), x25⟩), (26, some ⟨.int .i64, x26⟩), (27, some ⟨.int .i64, (IntKind.i64.wrap (x27 + (1 : Int)))⟩)] : Option slices_Concat.R) := by kernel_rfl
theorem slices_Concat.s4 (n : Nat) (Kr3 : St → Option slices_Concat.R) (kr3 : (List DRecord) → (List (List DRecord)) → Int → Int → Option (List DRecord)) (hK3 : ∀ (x6 : List DRecord) (x25 : List (List DRecord)) (x26 : Int) (x27 : Int), Kr3 [(6, some ⟨.slX .U TRecord, x6⟩), (25, some ⟨.slB .U false (.slB .U false TRecord), x25⟩), (26, some ⟨.int .i64, x26⟩), (27, some ⟨.int .i64, x27⟩)] = kr3 x6 x25 x26 x27) (x6 : List DRecord) (x25 : List (List DRecord)) (x26 : Int) (x27 : Int) : ev (slices_Concat.c4 n) [(6, some ⟨.slX .U TRecord, x6⟩), (25, some ⟨.slB .U false (.slB .U false TRecord), x25⟩), (26, some ⟨.int .i64, x26⟩), (27, some ⟨.int .i64, x27⟩)] (⟨retK slices_Concat.rs slices_Concat.ps slices_Concat.r, [(2, (slices_Concat.K2 n))]⟩ : Ks slices_Concat.R) (slices_Concat.Kb3 Kr3) = slices_Concat.j4 n kr3 x6 x25 x26 x27 := (slices_Concat.w4 n Kr3 x6 x25 x26 x27 (slices_Concat.K2 n) (slices_Concat.Kb3 Kr3)).trans (by simp -implicitDefEqProofs only [slices_Concat.j4, slices_Concat.qb3_0 Kr3 kr3 hK3] <;> kernel_rfl)
noncomputable def slices_Concat.H4 (n : Nat) (K2 : St → Option slices_Concat.R) (Kb3 : St → Option slices_Concat.R) (X : XC) : St → Option slices_Concat.R := fun st => ghK [.keep [6, 25, 26, 27]] st fun st => ev X st (⟨retK slices_Concat.rs slices_Concat.ps slices_Concat.r, [(2, K2)]⟩ : Ks slices_Concat.R) Kb3
noncomputable abbrev slices_Concat.K4 (n : Nat) (Kr3 : St → Option slices_Concat.R) : St → Option slices_Concat.R := slices_Concat.H4 n (slices_Concat.K2 n) (slices_Concat.Kb3 Kr3) (slices_Concat.c4 n)
noncomputable def slices_Concat.db3 (n : Nat) (X4 : XC) : XC :=
  (.aft (.seq (.reg (.op (.bin 28 .lss (.t 27) (.t 26)) none <| .nil)) <|
  (.seq (.cond (.t 28)
  .skip
  (.pre [.keep [6]] (.exit 2))) <|
  (.seq (.aft (.block 3 (.seq (.reg (.op (.idxA 29 (.t 25) (.t 27) 1 0) none <| .op (.ld 30 29 1 false) none <| .op (.mv 8 (.t 30)) none <| .nil)) <|
  (.reg (.op (.take 31 6) none <| .op (.mv 32 (.t 8)) none <| .op (.app 33 31 (.t 32) 88 9) none <| .op (.take 6 33) none <| .nil)))) [.keep [6, 25, 26, 27]]) X4))) [.keep [6, 25, 26, 27]])
noncomputable abbrev slices_Concat.cb3 (n : Nat) : XC := slices_Concat.db3 n (slices_Concat.c4 n)
theorem slices_Concat.q2_0_r (n : Nat) (X : XC) (x6 : List DRecord) : slices_Concat.H2 n X [(6, some ⟨.slX .U TRecord, x6⟩)] = (ev X [(6, some ⟨.slX .U TRecord, x6⟩)] (⟨retK slices_Concat.rs slices_Concat.ps slices_Concat.r, []⟩ : Ks slices_Concat.R) (retK slices_Concat.rs slices_Concat.ps slices_Concat.r) : Option slices_Concat.R) := by kernel_rfl
theorem slices_Concat.q2_0 (n : Nat) (x6 : List DRecord) : slices_Concat.K2 n [(6, some ⟨.slX .U TRecord, x6⟩)] = slices_Concat.j2 n x6 := (slices_Concat.q2_0_r n (slices_Concat.c2 n) x6).trans (slices_Concat.s2 n x6)
noncomputable def slices_Concat.l3 (n : Nat) : Nat → (List DRecord) → (List (List DRecord)) → Int → Int → Option (List DRecord)
  | 0, _, _, _, _ => none
  | k + 1, x6, x25, x26, x27 =>
  bif (decide (x27 < x26)) then (idxK x25 x27 fun e1 => appK x6.length e1.length 88 (slices_Concat.j4 n (slices_Concat.l3 n k) (x6 ++ e1) x25 x26 x27))
  else (slices_Concat.j2 n x6)
theorem slices_Concat.wb3 (n : Nat) (Kr3 : St → Option slices_Concat.R) (x6 : List DRecord) (x25 : List (List DRecord)) (x26 : Int) (x27 : Int) (K2 : St → Option slices_Concat.R) (X4 : XC) : ev (slices_Concat.db3 n X4) (keepSt [(6, some ⟨.slX .U TRecord, x6⟩), (25, some ⟨.slB .U false (.slB .U false TRecord), x25⟩), (26, some ⟨.int .i64, x26⟩), (27, some ⟨.int .i64, x27⟩)] [6, 25, 26, 27]) (⟨retK slices_Concat.rs slices_Concat.ps slices_Concat.r, [(2, K2)]⟩ : Ks slices_Concat.R) Kr3 =
  (bif (decide (x27 < x26)) then (idxK x25 x27 fun e1 => appK x6.length e1.length 88 (ev X4 [(6, some ⟨.slX .U TRecord, ((x6 ++ e1) : List DRecord)⟩), (25, some ⟨.slB .U false (.slB .U false TRecord), x25⟩), (26, some ⟨.int .i64, x26⟩), (27, some ⟨.int .i64, x27⟩)] (⟨retK slices_Concat.rs slices_Concat.ps slices_Concat.r, [(2, K2)]⟩ : Ks slices_Concat.R) (slices_Concat.Kb3 Kr3)))
  else (K2 [(6, some ⟨.slX .U TRecord, x6⟩)]) : Option slices_Concat.R) := by kernel_rfl
theorem slices_Concat.l3_ok (n : Nat) (k : Nat) : ∀ (x6 : List DRecord) (x25 : List (List DRecord)) (x26 : Int) (x27 : Int), loopEv [6, 25, 26, 27] (fun s K => ev (slices_Concat.cb3 n) s (⟨retK slices_Concat.rs slices_Concat.ps slices_Concat.r, [(2, (slices_Concat.K2 n))]⟩ : Ks slices_Concat.R) K) k [(6, some ⟨.slX .U TRecord, x6⟩), (25, some ⟨.slB .U false (.slB .U false TRecord), x25⟩), (26, some ⟨.int .i64, x26⟩), (27, some ⟨.int .i64, x27⟩)] = slices_Concat.l3 n k x6 x25 x26 x27 := by
  induction k with
  | zero => intros; rfl
  | succ k ih =>
    intro x6 x25 x26 x27
    exact (slices_Concat.wb3 n (fun st => loopEv [6, 25, 26, 27] (fun s K => ev (slices_Concat.cb3 n) s (⟨retK slices_Concat.rs slices_Concat.ps slices_Concat.r, [(2, (slices_Concat.K2 n))]⟩ : Ks slices_Concat.R) K) k st) x6 x25 x26 x27 (slices_Concat.K2 n) (slices_Concat.c4 n)).trans (by simp -implicitDefEqProofs only [slices_Concat.l3, slices_Concat.s4 n (fun st => loopEv [6, 25, 26, 27] (fun s K => ev (slices_Concat.cb3 n) s (⟨retK slices_Concat.rs slices_Concat.ps slices_Concat.r, [(2, (slices_Concat.K2 n))]⟩ : Ks slices_Concat.R) K) k st) (slices_Concat.l3 n k) ih, slices_Concat.q2_0 n] <;> kernel_rfl)
noncomputable def slices_Concat.d1 (n : Nat) (X2 Y3 : XC) : XC :=
  (.seq (.reg (.op (.mv 23 (.t 3)) none <| .op (.call (some 24) (slices_Grow.sp n) [.v (.c ⟨.nil 0, ()⟩), .v (.t 23)]) none <| .op (.take 6 24) none <| .nil)) <|
  (.seq (.aft (.seq (.reg (.op (.mv 25 (.t 0)) none <| .op (.len 26 (.t 25) false) none <| .op (.mv 27 (.c ⟨.int .i64, ((0 : Int) : Int)⟩)) none <| .nil)) <|
  (.block 2 (.pre [.keep [6, 25, 26, 27]] (.loop n [6, 25, 26, 27] Y3)))) [.keep [6]]) X2))
noncomputable abbrev slices_Concat.c1 (n : Nat) : XC := slices_Concat.d1 n (slices_Concat.c2 n) (slices_Concat.cb3 n)
noncomputable def slices_Concat.j1 (n : Nat) (x0 : List (List DRecord)) (x3 : Int) : Option (List DRecord) :=
  (slices_Grow.f n () x3).bind fun r1 => slices_Concat.l3 n n r1 x0 (x0.length : Int) (0 : Int)
theorem slices_Concat.w1 (n : Nat) (x0 : List (List DRecord)) (x3 : Int) (X2 Y3 : XC) : ev (slices_Concat.d1 n X2 Y3) [(0, some ⟨.slB .U false (.slB .U false TRecord), x0⟩), (3, some ⟨.int .i64, x3⟩)] (⟨retK slices_Concat.rs slices_Concat.ps slices_Concat.r, []⟩ : Ks slices_Concat.R) (retK slices_Concat.rs slices_Concat.ps slices_Concat.r) =
  ((slices_Grow.f n () x3).bind fun r1 => loopEv [6, 25, 26, 27] (fun s K => ev Y3 s (⟨retK slices_Concat.rs slices_Concat.ps slices_Concat.r, [(2, (slices_Concat.H2 n X2))]⟩ : Ks slices_Concat.R) K) n [(6, some ⟨.slX .U TRecord, r1⟩), (25, some ⟨.slB .U false (.slB .U false TRecord), x0⟩), (26, some ⟨.int .i64, (x0.length : Int)⟩), (27, some ⟨.int .i64, (0 : Int)⟩)] : Option slices_Concat.R) := by kernel_rfl
theorem slices_Concat.s1 (n : Nat) (x0 : List (List DRecord)) (x3 : Int) : ev (slices_Concat.c1 n) [(0, some ⟨.slB .U false (.slB .U false TRecord), x0⟩), (3, some ⟨.int .i64, x3⟩)] (⟨retK slices_Concat.rs slices_Concat.ps slices_Concat.r, []⟩ : Ks slices_Concat.R) (retK slices_Concat.rs slices_Concat.ps slices_Concat.r) = slices_Concat.j1 n x0 x3 := (slices_Concat.w1 n x0 x3 (slices_Concat.c2 n) (slices_Concat.cb3 n)).trans (by simp -implicitDefEqProofs only [slices_Concat.j1, slices_Concat.l3_ok n] <;> kernel_rfl)
noncomputable def slices_Concat.H1 (n : Nat) (X : XC) : St → Option slices_Concat.R := fun st => ghK [.keep [0, 3]] st fun st => ev X st (⟨retK slices_Concat.rs slices_Concat.ps slices_Concat.r, []⟩ : Ks slices_Concat.R) (retK slices_Concat.rs slices_Concat.ps slices_Concat.r)
noncomputable abbrev slices_Concat.K1 (n : Nat) : St → Option slices_Concat.R := slices_Concat.H1 n (slices_Concat.c1 n)
noncomputable def slices_Concat.Kb5 (Kr5 : St → Option slices_Concat.R) : St → Option slices_Concat.R := fun st => ghK [.keep [0, 3, 9, 10, 11]] st Kr5
noncomputable def slices_Concat.d6 (n : Nat) : XC :=
  (.aft (.reg (.op (.bin 22 .add (.t 11) (.c ⟨.int .i64, ((1 : Int) : Int)⟩)) none <| .op (.mv 11 (.t 22)) none <| .nil)) [.keep [0, 3, 9, 10, 11]])
noncomputable abbrev slices_Concat.c6 (n : Nat) : XC := slices_Concat.d6 n
theorem slices_Concat.qb5_0 (Kr5 : St → Option slices_Concat.R) (kr5 : (List (List DRecord)) → Int → (List (List DRecord)) → Int → Int → Option (List DRecord)) (hK5 : ∀ (x0 : List (List DRecord)) (x3 : Int) (x9 : List (List DRecord)) (x10 : Int) (x11 : Int), Kr5 [(0, some ⟨.slB .U false (.slB .U false TRecord), x0⟩), (3, some ⟨.int .i64, x3⟩), (9, some ⟨.slB .U false (.slB .U false TRecord), x9⟩), (10, some ⟨.int .i64, x10⟩), (11, some ⟨.int .i64, x11⟩)] = kr5 x0 x3 x9 x10 x11) (x0 : List (List DRecord)) (x3 : Int) (x9 : List (List DRecord)) (x10 : Int) (x11 : Int) : slices_Concat.Kb5 Kr5 [(0, some ⟨.slB .U false (.slB .U false TRecord), x0⟩), (3, some ⟨.int .i64, x3⟩), (9, some ⟨.slB .U false (.slB .U false TRecord), x9⟩), (10, some ⟨.int .i64, x10⟩), (11, some ⟨.int .i64, x11⟩)] = kr5 x0 x3 x9 x10 x11 := (by kernel_rfl : _ = Kr5 [(0, some ⟨.slB .U false (.slB .U false TRecord), x0⟩), (3, some ⟨.int .i64, x3⟩), (9, some ⟨.slB .U false (.slB .U false TRecord), x9⟩), (10, some ⟨.int .i64, x10⟩), (11, some ⟨.int .i64, x11⟩)]).trans (hK5 x0 x3 x9 x10 x11)
noncomputable def slices_Concat.j6 (n : Nat) (kr5 : (List (List DRecord)) → Int → (List (List DRecord)) → Int → Int → Option (List DRecord)) (x0 : List (List DRecord)) (x3 : Int) (x9 : List (List DRecord)) (x10 : Int) (x11 : Int) : Option (List DRecord) :=
  kr5 x0 x3 x9 x10 (IntKind.i64.wrap (x11 + (1 : Int)))
theorem slices_Concat.w6 (n : Nat) (Kr5 : St → Option slices_Concat.R) (x0 : List (List DRecord)) (x3 : Int) (x9 : List (List DRecord)) (x10 : Int) (x11 : Int) (K1 : St → Option slices_Concat.R) (Kb5 : St → Option slices_Concat.R) : ev (slices_Concat.d6 n) [(0, some ⟨.slB .U false (.slB .U false TRecord), x0⟩), (3, some ⟨.int .i64, x3⟩), (9, some ⟨.slB .U false (.slB .U false TRecord), x9⟩), (10, some ⟨.int .i64, x10⟩), (11, some ⟨.int .i64, x11⟩)] (⟨retK slices_Concat.rs slices_Concat.ps slices_Concat.r, [(0, K1)]⟩ : Ks slices_Concat.R) Kb5 =
  (Kb5 [(0, some ⟨.slB .U false (.slB .U false TRecord), x0⟩), (3, some ⟨.int .i64, x3⟩), (9, some ⟨.slB .U false (.slB .U false TRecord), x9⟩), (10, some ⟨.int .i64, x10⟩), (11, some ⟨.int .i64, (IntKind.i64.wrap (x11 + (1 : Int)))⟩)] : Option slices_Concat.R) := by kernel_rfl
theorem slices_Concat.s6 (n : Nat) (Kr5 : St → Option slices_Concat.R) (kr5 : (List (List DRecord)) → Int → (List (List DRecord)) → Int → Int → Option (List DRecord)) (hK5 : ∀ (x0 : List (List DRecord)) (x3 : Int) (x9 : List (List DRecord)) (x10 : Int) (x11 : Int), Kr5 [(0, some ⟨.slB .U false (.slB .U false TRecord), x0⟩), (3, some ⟨.int .i64, x3⟩), (9, some ⟨.slB .U false (.slB .U false TRecord), x9⟩), (10, some ⟨.int .i64, x10⟩), (11, some ⟨.int .i64, x11⟩)] = kr5 x0 x3 x9 x10 x11) (x0 : List (List DRecord)) (x3 : Int) (x9 : List (List DRecord)) (x10 : Int) (x11 : Int) : ev (slices_Concat.c6 n) [(0, some ⟨.slB .U false (.slB .U false TRecord), x0⟩), (3, some ⟨.int .i64, x3⟩), (9, some ⟨.slB .U false (.slB .U false TRecord), x9⟩), (10, some ⟨.int .i64, x10⟩), (11, some ⟨.int .i64, x11⟩)] (⟨retK slices_Concat.rs slices_Concat.ps slices_Concat.r, [(0, (slices_Concat.K1 n))]⟩ : Ks slices_Concat.R) (slices_Concat.Kb5 Kr5) = slices_Concat.j6 n kr5 x0 x3 x9 x10 x11 := (slices_Concat.w6 n Kr5 x0 x3 x9 x10 x11 (slices_Concat.K1 n) (slices_Concat.Kb5 Kr5)).trans (by simp -implicitDefEqProofs only [slices_Concat.j6, slices_Concat.qb5_0 Kr5 kr5 hK5] <;> kernel_rfl)
noncomputable def slices_Concat.H6 (n : Nat) (K1 : St → Option slices_Concat.R) (Kb5 : St → Option slices_Concat.R) (X : XC) : St → Option slices_Concat.R := fun st => ghK [.keep [0, 3, 9, 10, 11]] st fun st => ev X st (⟨retK slices_Concat.rs slices_Concat.ps slices_Concat.r, [(0, K1)]⟩ : Ks slices_Concat.R) Kb5
noncomputable abbrev slices_Concat.K6 (n : Nat) (Kr5 : St → Option slices_Concat.R) : St → Option slices_Concat.R := slices_Concat.H6 n (slices_Concat.K1 n) (slices_Concat.Kb5 Kr5) (slices_Concat.c6 n)
noncomputable def slices_Concat.db5 (n : Nat) (X6 : XC) : XC :=
  (.aft (.seq (.reg (.op (.bin 12 .lss (.t 11) (.t 10)) none <| .nil)) <|
  (.seq (.cond (.t 12)
  .skip
  (.pre [.keep [0, 3]] (.exit 0))) <|
  (.seq (.aft (.block 1 (.seq (.reg (.op (.idxA 13 (.t 9) (.t 11) 1 0) none <| .op (.ld 14 13 1 false) none <| .op (.mv 5 (.t 14)) none <| .nil)) <|
  (.seq (.reg (.op (.mv 15 (.t 3)) none <| .op (.mv 16 (.t 5)) none <| .op (.len 17 (.t 16) false) none <| .op (.bin 18 .add (.t 15) (.t 17)) none <| .op (.mv 3 (.t 18)) none <| .nil)) <|
  (.seq (.reg (.op (.mv 19 (.t 3)) none <| .op (.bin 20 .lss (.t 19) (.c ⟨.int .i64, ((0 : Int) : Int)⟩)) none <| .nil)) <|
  (.cond (.t 20)
  .dead
  .skip))))) [.keep [0, 3, 9, 10, 11]]) X6))) [.keep [0, 3, 9, 10, 11]])
noncomputable abbrev slices_Concat.cb5 (n : Nat) : XC := slices_Concat.db5 n (slices_Concat.c6 n)
theorem slices_Concat.q1_0_r (n : Nat) (X : XC) (x0 : List (List DRecord)) (x3 : Int) : slices_Concat.H1 n X [(0, some ⟨.slB .U false (.slB .U false TRecord), x0⟩), (3, some ⟨.int .i64, x3⟩)] = (ev X [(0, some ⟨.slB .U false (.slB .U false TRecord), x0⟩), (3, some ⟨.int .i64, x3⟩)] (⟨retK slices_Concat.rs slices_Concat.ps slices_Concat.r, []⟩ : Ks slices_Concat.R) (retK slices_Concat.rs slices_Concat.ps slices_Concat.r) : Option slices_Concat.R) := by kernel_rfl
theorem slices_Concat.q1_0 (n : Nat) (x0 : List (List DRecord)) (x3 : Int) : slices_Concat.K1 n [(0, some ⟨.slB .U false (.slB .U false TRecord), x0⟩), (3, some ⟨.int .i64, x3⟩)] = slices_Concat.j1 n x0 x3 := (slices_Concat.q1_0_r n (slices_Concat.c1 n) x0 x3).trans (slices_Concat.s1 n x0 x3)
noncomputable def slices_Concat.l5 (n : Nat) : Nat → (List (List DRecord)) → Int → (List (List DRecord)) → Int → Int → Option (List DRecord)
  | 0, _, _, _, _, _ => none
  | k + 1, x0, x3, x9, x10, x11 =>
  bif (decide (x11 < x10)) then (idxK x9 x11 fun e1 => bif (decide ((IntKind.i64.wrap (x3 + (e1.length : Int))) < (0 : Int))) then (none)
  else (slices_Concat.j6 n (slices_Concat.l5 n k) x0 (IntKind.i64.wrap (x3 + (e1.length : Int))) x9 x10 x11))
  else (slices_Concat.j1 n x0 x3)
theorem slices_Concat.wb5 (n : Nat) (Kr5 : St → Option slices_Concat.R) (x0 : List (List DRecord)) (x3 : Int) (x9 : List (List DRecord)) (x10 : Int) (x11 : Int) (K1 : St → Option slices_Concat.R) (X6 : XC) : ev (slices_Concat.db5 n X6) (keepSt [(0, some ⟨.slB .U false (.slB .U false TRecord), x0⟩), (3, some ⟨.int .i64, x3⟩), (9, some ⟨.slB .U false (.slB .U false TRecord), x9⟩), (10, some ⟨.int .i64, x10⟩), (11, some ⟨.int .i64, x11⟩)] [0, 3, 9, 10, 11]) (⟨retK slices_Concat.rs slices_Concat.ps slices_Concat.r, [(0, K1)]⟩ : Ks slices_Concat.R) Kr5 =
  (bif (decide (x11 < x10)) then (idxK x9 x11 fun e1 => bif (decide ((IntKind.i64.wrap (x3 + (e1.length : Int))) < (0 : Int))) then (none)
  else (ev X6 [(0, some ⟨.slB .U false (.slB .U false TRecord), x0⟩), (3, some ⟨.int .i64, (IntKind.i64.wrap (x3 + (e1.length : Int)))⟩), (9, some ⟨.slB .U false (.slB .U false TRecord), x9⟩), (10, some ⟨.int .i64, x10⟩), (11, some ⟨.int .i64, x11⟩)] (⟨retK slices_Concat.rs slices_Concat.ps slices_Concat.r, [(0, K1)]⟩ : Ks slices_Concat.R) (slices_Concat.Kb5 Kr5)))
  else (K1 [(0, some ⟨.slB .U false (.slB .U false TRecord), x0⟩), (3, some ⟨.int .i64, x3⟩)]) : Option slices_Concat.R) := by kernel_rfl
theorem slices_Concat.l5_ok (n : Nat) (k : Nat) : ∀ (x0 : List (List DRecord)) (x3 : Int) (x9 : List (List DRecord)) (x10 : Int) (x11 : Int), loopEv [0, 3, 9, 10, 11] (fun s K => ev (slices_Concat.cb5 n) s (⟨retK slices_Concat.rs slices_Concat.ps slices_Concat.r, [(0, (slices_Concat.K1 n))]⟩ : Ks slices_Concat.R) K) k [(0, some ⟨.slB .U false (.slB .U false TRecord), x0⟩), (3, some ⟨.int .i64, x3⟩), (9, some ⟨.slB .U false (.slB .U false TRecord), x9⟩), (10, some ⟨.int .i64, x10⟩), (11, some ⟨.int .i64, x11⟩)] = slices_Concat.l5 n k x0 x3 x9 x10 x11 := by
  induction k with
  | zero => intros; rfl
  | succ k ih =>
    intro x0 x3 x9 x10 x11
    exact (slices_Concat.wb5 n (fun st => loopEv [0, 3, 9, 10, 11] (fun s K => ev (slices_Concat.cb5 n) s (⟨retK slices_Concat.rs slices_Concat.ps slices_Concat.r, [(0, (slices_Concat.K1 n))]⟩ : Ks slices_Concat.R) K) k st) x0 x3 x9 x10 x11 (slices_Concat.K1 n) (slices_Concat.c6 n)).trans (by simp -implicitDefEqProofs only [slices_Concat.l5, slices_Concat.s6 n (fun st => loopEv [0, 3, 9, 10, 11] (fun s K => ev (slices_Concat.cb5 n) s (⟨retK slices_Concat.rs slices_Concat.ps slices_Concat.r, [(0, (slices_Concat.K1 n))]⟩ : Ks slices_Concat.R) K) k st) (slices_Concat.l5 n k) ih, slices_Concat.q1_0 n] <;> kernel_rfl)
noncomputable def slices_Concat.d (n : Nat) (X1 Y5 : XC) : XC :=
  (.seq (.reg (.op (.mv 2 (.c ⟨.nil 0, ()⟩)) none <| .nil)) <|
  (.seq (.reg (.op (.mv 3 (.c ⟨.int .i64, ((0 : Int) : Int)⟩)) none <| .nil)) <|
  (.seq (.aft (.seq (.reg (.op (.mv 9 (.t 0)) none <| .op (.len 10 (.t 9) false) none <| .op (.mv 11 (.c ⟨.int .i64, ((0 : Int) : Int)⟩)) none <| .nil)) <|
  (.block 0 (.pre [.keep [0, 3, 9, 10, 11]] (.loop n [0, 3, 9, 10, 11] Y5)))) [.keep [0, 3]]) X1)))
noncomputable abbrev slices_Concat.c (n : Nat) : XC := slices_Concat.d n (slices_Concat.c1 n) (slices_Concat.cb5 n)
noncomputable def slices_Concat.f (n : Nat) (a0 : List (List DRecord)) : Option (List DRecord) :=
  slices_Concat.l5 n n a0 (0 : Int) a0 (a0.length : Int) (0 : Int)
theorem slices_Concat.w (n : Nat) (a0 : List (List DRecord)) (X1 Y5 : XC) : evFn (slices_Concat.d n X1 Y5) slices_Concat.rs slices_Concat.ps slices_Concat.r (a0, ()) =
  (loopEv [0, 3, 9, 10, 11] (fun s K => ev Y5 s (⟨retK slices_Concat.rs slices_Concat.ps slices_Concat.r, [(0, (slices_Concat.H1 n X1))]⟩ : Ks slices_Concat.R) K) n [(0, some ⟨.slB .U false (.slB .U false TRecord), a0⟩), (3, some ⟨.int .i64, (0 : Int)⟩), (9, some ⟨.slB .U false (.slB .U false TRecord), a0⟩), (10, some ⟨.int .i64, (a0.length : Int)⟩), (11, some ⟨.int .i64, (0 : Int)⟩)] : Option slices_Concat.R) := by kernel_rfl
theorem slices_Concat.ok (n : Nat) (a0 : List (List DRecord)) : evFn (slices_Concat.c n) slices_Concat.rs slices_Concat.ps slices_Concat.r (a0, ()) = slices_Concat.f n a0 := (slices_Concat.w n a0 (slices_Concat.c1 n) (slices_Concat.cb5 n)).trans (by simp -implicitDefEqProofs only [slices_Concat.f, slices_Concat.l5_ok n] <;> kernel_rfl)
noncomputable def slices_Concat.sp (n : Nat) : FSpec := { f := 34, ps := slices_Concat.ps, r := slices_Concat.r, run := fun x => slices_Concat.f n x.1 }
theorem slices_Concat.calls (n : Nat) : (slices_Concat.c n).calls = [slices_Grow.sp n] := by kernel_rfl
theorem slices_Concat.fits (n : Nat) : fnB tab hd Try.f34 (slices_Concat.c n) slices_Concat.rs (slices_Concat.sp n).ps (slices_Concat.sp n).r = true := by kernel_rfl
theorem slices_Concat.sound (n : Nat) : Sound Try.prog (slices_Concat.sp n) := by
  refine fnB_sound tabOk eqFacts mixed (fn := Try.f34) (c := slices_Concat.c n) (rs := slices_Concat.rs) (by kernel_rfl) ?_ (slices_Concat.fits n) ?_
  · rw [slices_Concat.calls]
    intro s hs
    simp only [List.mem_cons, List.not_mem_nil, or_false] at hs
    rcases hs with rfl
    · exact slices_Grow.meets n
  · rintro ⟨a0, ⟨⟩⟩ y h
    exact (slices_Concat.ok n a0).trans h
theorem slices_Concat.meets (n : Nat) : Meets Try.prog (slices_Concat.sp n) := (slices_Concat.sound n).meets
/-! backwater/cml.Optimise -/
abbrev cml_Optimise.ps : List (Ty × Bool) := [(.slB .U false TRecord, false)]
abbrev cml_Optimise.r : Ty := .slX .U TRecord
abbrev cml_Optimise.rs : List RV := [.t 2]
abbrev cml_Optimise.R : Type := (rtOf cml_Optimise.ps cml_Optimise.r).den
noncomputable def cml_Optimise.d3 (n : Nat) : XC :=
  (.seq (.reg (.op (.take 99 8) none <| .op (.take 2 99) none <| .nil)) <|
  .ret)
noncomputable abbrev cml_Optimise.c3 (n : Nat) : XC := cml_Optimise.d3 n
noncomputable def cml_Optimise.j3 (n : Nat) (x8 : List DRecord) : Option (List DRecord) :=
  some x8
theorem cml_Optimise.s3 (n : Nat) (x8 : List DRecord) : ev (cml_Optimise.c3 n) [(8, some ⟨.slX .U TRecord, x8⟩)] (⟨retK cml_Optimise.rs cml_Optimise.ps cml_Optimise.r, []⟩ : Ks cml_Optimise.R) (retK cml_Optimise.rs cml_Optimise.ps cml_Optimise.r) = cml_Optimise.j3 n x8 := by kernel_rfl
noncomputable def cml_Optimise.H3 (n : Nat) (X : XC) : St → Option cml_Optimise.R := fun st => ghK [.keep [8]] st fun st => ev X st (⟨retK cml_Optimise.rs cml_Optimise.ps cml_Optimise.r, []⟩ : Ks cml_Optimise.R) (retK cml_Optimise.rs cml_Optimise.ps cml_Optimise.r)
noncomputable abbrev cml_Optimise.K3 (n : Nat) : St → Option cml_Optimise.R := cml_Optimise.H3 n (cml_Optimise.c3 n)
noncomputable def cml_Optimise.Kb4 (Kr4 : St → Option cml_Optimise.R) : St → Option cml_Optimise.R := fun st => ghK [.keep [8, 13, 14, 15]] st Kr4
noncomputable def cml_Optimise.d5 (n : Nat) : XC :=
  (.aft (.reg (.op (.bor 70 8) none <| .op (.call (some 71) (cml_pair.sp n) [.v (.t 70)]) none <| .op (.take 69 71) none <| .op (.ext 72 69 0) none <| .op (.ext 73 69 1) none <| .op (.ext 74 69 2) none <| .op (.mv 13 (.t 72)) none <| .op (.mv 14 (.t 73)) none <| .op (.mv 15 (.t 74)) none <| .nil)) [.keep [8, 13, 14, 15]])
noncomputable abbrev cml_Optimise.c5 (n : Nat) : XC := cml_Optimise.d5 n
theorem cml_Optimise.qb4_0 (Kr4 : St → Option cml_Optimise.R) (kr4 : (List DRecord) → Int → Int → Bool → Option (List DRecord)) (hK4 : ∀ (x8 : List DRecord) (x13 : Int) (x14 : Int) (x15 : Bool), Kr4 [(8, some ⟨.slX .U TRecord, x8⟩), (13, some ⟨.int .i64, x13⟩), (14, some ⟨.int .i64, x14⟩), (15, some ⟨.bool, x15⟩)] = kr4 x8 x13 x14 x15) (x8 : List DRecord) (x13 : Int) (x14 : Int) (x15 : Bool) : cml_Optimise.Kb4 Kr4 [(8, some ⟨.slX .U TRecord, x8⟩), (13, some ⟨.int .i64, x13⟩), (14, some ⟨.int .i64, x14⟩), (15, some ⟨.bool, x15⟩)] = kr4 x8 x13 x14 x15 := (by kernel_rfl : _ = Kr4 [(8, some ⟨.slX .U TRecord, x8⟩), (13, some ⟨.int .i64, x13⟩), (14, some ⟨.int .i64, x14⟩), (15, some ⟨.bool, x15⟩)]).trans (hK4 x8 x13 x14 x15)
noncomputable def cml_Optimise.j5 (n : Nat) (kr4 : (List DRecord) → Int → Int → Bool → Option (List DRecord)) (x8 : List DRecord) : Option (List DRecord) :=
  (cml_pair.f n x8).bind fun r1 => kr4 x8 r1.1 r1.2.1 r1.2.2.1
theorem cml_Optimise.w5 (n : Nat) (Kr4 : St → Option cml_Optimise.R) (x8 : List DRecord) (K3 : St → Option cml_Optimise.R) (Kb4 : St → Option cml_Optimise.R) : ev (cml_Optimise.d5 n) [(8, some ⟨.slX .U TRecord, x8⟩)] (⟨retK cml_Optimise.rs cml_Optimise.ps cml_Optimise.r, [(4, K3)]⟩ : Ks cml_Optimise.R) Kb4 =
  ((cml_pair.f n x8).bind fun r1 => Kb4 [(8, some ⟨.slX .U TRecord, x8⟩), (13, some ⟨.int .i64, r1.1⟩), (14, some ⟨.int .i64, r1.2.1⟩), (15, some ⟨.bool, r1.2.2.1⟩)] : Option cml_Optimise.R) := by kernel_rfl
theorem cml_Optimise.s5 (n : Nat) (Kr4 : St → Option cml_Optimise.R) (kr4 : (List DRecord) → Int → Int → Bool → Option (List DRecord)) (hK4 : ∀ (x8 : List DRecord) (x13 : Int) (x14 : Int) (x15 : Bool), Kr4 [(8, some ⟨.slX .U TRecord, x8⟩), (13, some ⟨.int .i64, x13⟩), (14, some ⟨.int .i64, x14⟩), (15, some ⟨.bool, x15⟩)] = kr4 x8 x13 x14 x15) (x8 : List DRecord) : ev (cml_Optimise.c5 n) [(8, some ⟨.slX .U TRecord, x8⟩)] (⟨retK cml_Optimise.rs cml_Optimise.ps cml_Optimise.r, [(4, (cml_Optimise.K3 n))]⟩ : Ks cml_Optimise.R) (cml_Optimise.Kb4 Kr4) = cml_Optimise.j5 n kr4 x8 := (cml_Optimise.w5 n Kr4 x8 (cml_Optimise.K3 n) (cml_Optimise.Kb4 Kr4)).trans (by simp -implicitDefEqProofs only [cml_Optimise.j5, cml_Optimise.qb4_0 Kr4 kr4 hK4] <;> kernel_rfl)
noncomputable def cml_Optimise.H5 (n : Nat) (K3 : St → Option cml_Optimise.R) (Kb4 : St → Option cml_Optimise.R) (X : XC) : St → Option cml_Optimise.R := fun st => ghK [.keep [8]] st fun st => ev X st (⟨retK cml_Optimise.rs cml_Optimise.ps cml_Optimise.r, [(4, K3)]⟩ : Ks cml_Optimise.R) Kb4
noncomputable abbrev cml_Optimise.K5 (n : Nat) (Kr4 : St → Option cml_Optimise.R) : St → Option cml_Optimise.R := cml_Optimise.H5 n (cml_Optimise.K3 n) (cml_Optimise.Kb4 Kr4) (cml_Optimise.c5 n)
noncomputable def cml_Optimise.db4 (n : Nat) (X5 : XC) : XC :=
  (.aft (.seq (.seq (.reg (.op (.mv 68 (.t 15)) none <| .nil)) <|
  (.cond (.t 68)
  .skip
  (.pre [.keep [8]] (.exit 4)))) <|
  (.seq (.aft (.block 5 (.seq (.reg (.op (.bor 75 8) none <| .op (.mv 76 (.t 13)) none <| .op (.idxA 77 (.t 75) (.t 76) 9 0) none <| .op (.fa 78 77 0 0) none <| .op (.fa 79 78 1 1) none <| .op (.ld 80 79 1 false) none <| .op (.alloc 16 ⟨.int .u32, ((0 : Int) : Int)⟩) none <| .op (.st 16 (.t 80) 1) none <| .nil)) <|
  (.seq (.reg (.op (.frz 81 8) none <| .op (.mv 82 (.t 13)) none <| .op (.bin 83 .add (.t 82) (.c ⟨.int .i64, ((1 : Int) : Int)⟩)) none <| .op (.mv 84 (.t 14)) none <| .op (.slc 85 (.t 81) (some (.t 83)) (some (.t 84)) none 9) none <| .op (.call (some 86) (slices_Clone.sp n) [.v (.t 85)]) none <| .op (.mkfn 87 33 [((.t 16), true)]) none <| .op (.call (some 88) (slices_DeleteFunc_31.sp n) [.k 86, .v (.t 87)]) none <| .op (.frz 17 88) none <| .nil)) <|
  (.pre [.keep [8, 13, 14, 17]] (.regD (.op (.mv 89 (.t 8)) (some ([8, 89], [89])) <| .op (.mv 90 (.t 13)) (some ([13, 90], [90])) <| .op (.slc 91 (.t 89) none (some (.t 90)) none 9) (some ([89, 90, 91], [91])) <| .op (.mv 92 (.t 17)) (some ([17, 92], [92])) <| .op (.mv 93 (.t 8)) (some ([8, 93], [93])) <| .op (.mv 94 (.t 14)) (some ([14, 94], [94])) <| .op (.bin 95 .add (.t 94) (.c ⟨.int .i64, ((1 : Int) : Int)⟩)) (some ([94, 95], [95])) <| .op (.slc 96 (.t 93) (some (.t 95)) none none 9) (some ([93, 95, 96], [96])) <| .op (.bsl 97 (.slB .U false TRecord) [(.t 91), (.t 92), (.t 96)]) (some ([91, 92, 96, 97], [97])) <| .op (.call (some 98) (slices_Concat.sp n) [.v (.t 97)]) (some ([97, 98], [98])) <| .op (.take 8 98) (some ([8, 98], [8, 98])) <| .nil)))))) [.keep [8]]) X5)) [.keep [8, 13, 14, 15]])
noncomputable abbrev cml_Optimise.cb4 (n : Nat) : XC := cml_Optimise.db4 n (cml_Optimise.c5 n)
theorem cml_Optimise.q3_0_r (n : Nat) (X : XC) (x8 : List DRecord) : cml_Optimise.H3 n X [(8, some ⟨.slX .U TRecord, x8⟩)] = (ev X [(8, some ⟨.slX .U TRecord, x8⟩)] (⟨retK cml_Optimise.rs cml_Optimise.ps cml_Optimise.r, []⟩ : Ks cml_Optimise.R) (retK cml_Optimise.rs cml_Optimise.ps cml_Optimise.r) : Option cml_Optimise.R) := by kernel_rfl
theorem cml_Optimise.q3_0 (n : Nat) (x8 : List DRecord) : cml_Optimise.K3 n [(8, some ⟨.slX .U TRecord, x8⟩)] = cml_Optimise.j3 n x8 := (cml_Optimise.q3_0_r n (cml_Optimise.c3 n) x8).trans (cml_Optimise.s3 n x8)
noncomputable def cml_Optimise.l4 (n : Nat) : Nat → (List DRecord) → Int → Int → Bool → Option (List DRecord)
  | 0, _, _, _, _ => none
  | k + 1, x8, x13, x14, x15 =>
  bif x15 then (idxK x8 x13 fun e1 => sliceK (IntKind.i64.wrap (x13 + (1 : Int))) x14 x8.length ((slices_Clone.f n (cut x8 (IntKind.i64.wrap (x13 + (1 : Int))) x14)).bind fun r2 => (slices_DeleteFunc_31.f n r2 (e1.1.2.1, ())).bind fun r3 => sliceK 0 x13 x8.length (sliceK (IntKind.i64.wrap (x14 + (1 : Int))) (x8.length : Int) x8.length ((slices_Concat.f n ([(cut x8 0 x13), r3, (cut x8 (IntKind.i64.wrap (x14 + (1 : Int))) (x8.length : Int))] : List (List DRecord))).bind fun r4 => cml_Optimise.j5 n (cml_Optimise.l4 n k) r4))))
  else (cml_Optimise.j3 n x8)
theorem cml_Optimise.wb4 (n : Nat) (Kr4 : St → Option cml_Optimise.R) (x8 : List DRecord) (x13 : Int) (x14 : Int) (x15 : Bool) (K3 : St → Option cml_Optimise.R) (X5 : XC) : ev (cml_Optimise.db4 n X5) (keepSt [(8, some ⟨.slX .U TRecord, x8⟩), (13, some ⟨.int .i64, x13⟩), (14, some ⟨.int .i64, x14⟩), (15, some ⟨.bool, x15⟩)] [8, 13, 14, 15]) (⟨retK cml_Optimise.rs cml_Optimise.ps cml_Optimise.r, [(4, K3)]⟩ : Ks cml_Optimise.R) Kr4 =
  (bif x15 then (idxK x8 x13 fun e1 => sliceK (IntKind.i64.wrap (x13 + (1 : Int))) x14 x8.length ((slices_Clone.f n (cut x8 (IntKind.i64.wrap (x13 + (1 : Int))) x14)).bind fun r2 => (slices_DeleteFunc_31.f n r2 (e1.1.2.1, ())).bind fun r3 => sliceK 0 x13 x8.length (sliceK (IntKind.i64.wrap (x14 + (1 : Int))) (x8.length : Int) x8.length ((slices_Concat.f n ([(cut x8 0 x13), r3, (cut x8 (IntKind.i64.wrap (x14 + (1 : Int))) (x8.length : Int))] : List (List DRecord))).bind fun r4 => ev X5 [(8, some ⟨.slX .U TRecord, r4⟩)] (⟨retK cml_Optimise.rs cml_Optimise.ps cml_Optimise.r, [(4, K3)]⟩ : Ks cml_Optimise.R) (cml_Optimise.Kb4 Kr4)))))
  else (K3 [(8, some ⟨.slX .U TRecord, x8⟩)]) : Option cml_Optimise.R) := by kernel_rfl
theorem cml_Optimise.l4_ok (n : Nat) (k : Nat) : ∀ (x8 : List DRecord) (x13 : Int) (x14 : Int) (x15 : Bool), loopEv [8, 13, 14, 15] (fun s K => ev (cml_Optimise.cb4 n) s (⟨retK cml_Optimise.rs cml_Optimise.ps cml_Optimise.r, [(4, (cml_Optimise.K3 n))]⟩ : Ks cml_Optimise.R) K) k [(8, some ⟨.slX .U TRecord, x8⟩), (13, some ⟨.int .i64, x13⟩), (14, some ⟨.int .i64, x14⟩), (15, some ⟨.bool, x15⟩)] = cml_Optimise.l4 n k x8 x13 x14 x15 := by
  induction k with
  | zero => intros; rfl
  | succ k ih =>
    intro x8 x13 x14 x15
    exact (cml_Optimise.wb4 n (fun st => loopEv [8, 13, 14, 15] (fun s K => ev (cml_Optimise.cb4 n) s (⟨retK cml_Optimise.rs cml_Optimise.ps cml_Optimise.r, [(4, (cml_Optimise.K3 n))]⟩ : Ks cml_Optimise.R) K) k st) x8 x13 x14 x15 (cml_Optimise.K3 n) (cml_Optimise.c5 n)).trans (by simp -implicitDefEqProofs only [cml_Optimise.l4, cml_Optimise.s5 n (fun st => loopEv [8, 13, 14, 15] (fun s K => ev (cml_Optimise.cb4 n) s (⟨retK cml_Optimise.rs cml_Optimise.ps cml_Optimise.r, [(4, (cml_Optimise.K3 n))]⟩ : Ks cml_Optimise.R) K) k st) (cml_Optimise.l4 n k) ih, cml_Optimise.q3_0 n] <;> kernel_rfl)
noncomputable def cml_Optimise.d2 (n : Nat) (X3 Y4 : XC) : XC :=
  (.seq (.aft (.seq (.reg (.op (.bor 63 8) none <| .op (.call (some 64) (cml_pair.sp n) [.v (.t 63)]) none <| .op (.take 62 64) none <| .op (.ext 65 62 0) none <| .op (.ext 66 62 1) none <| .op (.ext 67 62 2) none <| .op (.mv 13 (.t 65)) none <| .op (.mv 14 (.t 66)) none <| .op (.mv 15 (.t 67)) none <| .nil)) <|
  (.block 4 (.pre [.coe 8 (.slX .U TRecord), .keep [8, 13, 14, 15]] (.loop n [8, 13, 14, 15] Y4)))) [.keep [8]]) X3)
noncomputable abbrev cml_Optimise.c2 (n : Nat) : XC := cml_Optimise.d2 n (cml_Optimise.c3 n) (cml_Optimise.cb4 n)
noncomputable def cml_Optimise.j2 (n : Nat) (x8 : List DRecord) : Option (List DRecord) :=
  (cml_pair.f n x8).bind fun r1 => cml_Optimise.l4 n n x8 r1.1 r1.2.1 r1.2.2.1
theorem cml_Optimise.w2 (n : Nat) (x8 : List DRecord) (X3 Y4 : XC) : ev (cml_Optimise.d2 n X3 Y4) [(8, some ⟨.slX .N TRecord, x8⟩)] (⟨retK cml_Optimise.rs cml_Optimise.ps cml_Optimise.r, []⟩ : Ks cml_Optimise.R) (retK cml_Optimise.rs cml_Optimise.ps cml_Optimise.r) =
  ((cml_pair.f n x8).bind fun r1 => loopEv [8, 13, 14, 15] (fun s K => ev Y4 s (⟨retK cml_Optimise.rs cml_Optimise.ps cml_Optimise.r, [(4, (cml_Optimise.H3 n X3))]⟩ : Ks cml_Optimise.R) K) n [(8, some ⟨.slX .U TRecord, x8⟩), (13, some ⟨.int .i64, r1.1⟩), (14, some ⟨.int .i64, r1.2.1⟩), (15, some ⟨.bool, r1.2.2.1⟩)] : Option cml_Optimise.R) := by kernel_rfl
theorem cml_Optimise.s2 (n : Nat) (x8 : List DRecord) : ev (cml_Optimise.c2 n) [(8, some ⟨.slX .N TRecord, x8⟩)] (⟨retK cml_Optimise.rs cml_Optimise.ps cml_Optimise.r, []⟩ : Ks cml_Optimise.R) (retK cml_Optimise.rs cml_Optimise.ps cml_Optimise.r) = cml_Optimise.j2 n x8 := (cml_Optimise.w2 n x8 (cml_Optimise.c3 n) (cml_Optimise.cb4 n)).trans (by simp -implicitDefEqProofs only [cml_Optimise.j2, cml_Optimise.l4_ok n] <;> kernel_rfl)
noncomputable def cml_Optimise.H2 (n : Nat) (X : XC) : St → Option cml_Optimise.R := fun st => ghK [.keep [8]] st fun st => ev X st (⟨retK cml_Optimise.rs cml_Optimise.ps cml_Optimise.r, []⟩ : Ks cml_Optimise.R) (retK cml_Optimise.rs cml_Optimise.ps cml_Optimise.r)
noncomputable abbrev cml_Optimise.K2 (n : Nat) : St → Option cml_Optimise.R := cml_Optimise.H2 n (cml_Optimise.c2 n)
noncomputable def cml_Optimise.Kb6 (Kr6 : St → Option cml_Optimise.R) : St → Option cml_Optimise.R := fun st => ghK [.keep [3, 8, 36, 37, 38]] st Kr6
noncomputable def cml_Optimise.d7 (n : Nat) : XC :=
  (.aft (.reg (.op (.bin 61 .add (.t 38) (.c ⟨.int .i64, ((1 : Int) : Int)⟩)) none <| .op (.mv 38 (.t 61)) none <| .nil)) [.keep [3, 8, 36, 37, 38]])
noncomputable abbrev cml_Optimise.c7 (n : Nat) : XC := cml_Optimise.d7 n
theorem cml_Optimise.qb6_0 (Kr6 : St → Option cml_Optimise.R) (kr6 : (List (Dcontent × Int)) → (List DRecord) → (List DRecord) → Int → Int → Option (List DRecord)) (hK6 : ∀ (x3 : List (Dcontent × Int)) (x8 : List DRecord) (x36 : List DRecord) (x37 : Int) (x38 : Int), Kr6 [(3, some ⟨.map Tcontent (.int .i64), x3⟩), (8, some ⟨.slX .N TRecord, x8⟩), (36, some ⟨.slB .U false TRecord, x36⟩), (37, some ⟨.int .i64, x37⟩), (38, some ⟨.int .i64, x38⟩)] = kr6 x3 x8 x36 x37 x38) (x3 : List (Dcontent × Int)) (x8 : List DRecord) (x36 : List DRecord) (x37 : Int) (x38 : Int) : cml_Optimise.Kb6 Kr6 [(3, some ⟨.map Tcontent (.int .i64), x3⟩), (8, some ⟨.slX .N TRecord, x8⟩), (36, some ⟨.slB .U false TRecord, x36⟩), (37, some ⟨.int .i64, x37⟩), (38, some ⟨.int .i64, x38⟩)] = kr6 x3 x8 x36 x37 x38 := (by kernel_rfl : _ = Kr6 [(3, some ⟨.map Tcontent (.int .i64), x3⟩), (8, some ⟨.slX .N TRecord, x8⟩), (36, some ⟨.slB .U false TRecord, x36⟩), (37, some ⟨.int .i64, x37⟩), (38, some ⟨.int .i64, x38⟩)]).trans (hK6 x3 x8 x36 x37 x38)
noncomputable def cml_Optimise.j7 (n : Nat) (kr6 : (List (Dcontent × Int)) → (List DRecord) → (List DRecord) → Int → Int → Option (List DRecord)) (x3 : List (Dcontent × Int)) (x8 : List DRecord) (x36 : List DRecord) (x37 : Int) (x38 : Int) : Option (List DRecord) :=
  kr6 x3 x8 x36 x37 (IntKind.i64.wrap (x38 + (1 : Int)))
theorem cml_Optimise.w7 (n : Nat) (Kr6 : St → Option cml_Optimise.R) (x3 : List (Dcontent × Int)) (x8 : List DRecord) (x36 : List DRecord) (x37 : Int) (x38 : Int) (K2 : St → Option cml_Optimise.R) (Kb6 : St → Option cml_Optimise.R) : ev (cml_Optimise.d7 n) [(3, some ⟨.map Tcontent (.int .i64), x3⟩), (8, some ⟨.slX .N TRecord, x8⟩), (36, some ⟨.slB .U false TRecord, x36⟩), (37, some ⟨.int .i64, x37⟩), (38, some ⟨.int .i64, x38⟩)] (⟨retK cml_Optimise.rs cml_Optimise.ps cml_Optimise.r, [(2, K2)]⟩ : Ks cml_Optimise.R) Kb6 =
  (Kb6 [(3, some ⟨.map Tcontent (.int .i64), x3⟩), (8, some ⟨.slX .N TRecord, x8⟩), (36, some ⟨.slB .U false TRecord, x36⟩), (37, some ⟨.int .i64, x37⟩), (38, some ⟨.int .i64, (IntKind.i64.wrap (x38 + (1 : Int)))⟩)] : Option cml_Optimise.R) := by kernel_rfl
theorem cml_Optimise.s7 (n : Nat) (Kr6 : St → Option cml_Optimise.R) (kr6 : (List (Dcontent × Int)) → (List DRecord) → (List DRecord) → Int → Int → Option (List DRecord)) (hK6 : ∀ (x3 : List (Dcontent × Int)) (x8 : List DRecord) (x36 : List DRecord) (x37 : Int) (x38 : Int), Kr6 [(3, some ⟨.map Tcontent (.int .i64), x3⟩), (8, some ⟨.slX .N TRecord, x8⟩), (36, some ⟨.slB .U false TRecord, x36⟩), (37, some ⟨.int .i64, x37⟩), (38, some ⟨.int .i64, x38⟩)] = kr6 x3 x8 x36 x37 x38) (x3 : List (Dcontent × Int)) (x8 : List DRecord) (x36 : List DRecord) (x37 : Int) (x38 : Int) : ev (cml_Optimise.c7 n) [(3, some ⟨.map Tcontent (.int .i64), x3⟩), (8, some ⟨.slX .N TRecord, x8⟩), (36, some ⟨.slB .U false TRecord, x36⟩), (37, some ⟨.int .i64, x37⟩), (38, some ⟨.int .i64, x38⟩)] (⟨retK cml_Optimise.rs cml_Optimise.ps cml_Optimise.r, [(2, (cml_Optimise.K2 n))]⟩ : Ks cml_Optimise.R) (cml_Optimise.Kb6 Kr6) = cml_Optimise.j7 n kr6 x3 x8 x36 x37 x38 := (cml_Optimise.w7 n Kr6 x3 x8 x36 x37 x38 (cml_Optimise.K2 n) (cml_Optimise.Kb6 Kr6)).trans (by simp -implicitDefEqProofs only [cml_Optimise.j7, cml_Optimise.qb6_0 Kr6 kr6 hK6] <;> kernel_rfl)
noncomputable def cml_Optimise.H7 (n : Nat) (K2 : St → Option cml_Optimise.R) (Kb6 : St → Option cml_Optimise.R) (X : XC) : St → Option cml_Optimise.R := fun st => ghK [.keep [3, 8, 36, 37, 38]] st fun st => ev X st (⟨retK cml_Optimise.rs cml_Optimise.ps cml_Optimise.r, [(2, K2)]⟩ : Ks cml_Optimise.R) Kb6
noncomputable abbrev cml_Optimise.K7 (n : Nat) (Kr6 : St → Option cml_Optimise.R) : St → Option cml_Optimise.R := cml_Optimise.H7 n (cml_Optimise.K2 n) (cml_Optimise.Kb6 Kr6) (cml_Optimise.c7 n)
noncomputable def cml_Optimise.db6 (n : Nat) (X7 : XC) : XC :=
  (.aft (.seq (.reg (.op (.bin 39 .lss (.t 38) (.t 37)) none <| .nil)) <|
  (.seq (.cond (.t 39)
  .skip
  (.pre [.keep [8]] (.exit 2))) <|
  (.seq (.aft (.block 3 (.seq (.reg (.op (.mv 40 (.t 38)) none <| .op (.idxA 41 (.t 36) (.t 38) 9 0) none <| .op (.ld 42 41 9 true) none <| .op (.alloc 10 ⟨TRecord, ((((0 : Int), (0 : Int), (0 : Int), ([] : List Int), (0 : Int), ([] : List Int), (0 : Int), ([] : List Int), ()), (0 : Int), ()) : DRecord)⟩) none <| .op (.mv 9 (.t 40)) none <| .op (.st 10 (.t 42) 9) none <| .nil)) <|
  (.seq (.reg (.op (.ld 44 10 9 true) none <| .op (.call (some 45) (cml_of.sp n) [.v (.t 44)]) none <| .op (.take 43 45) none <| .op (.ext 46 43 0) none <| .op (.ext 47 43 1) none <| .op (.alloc 11 ⟨Tcontent, (((0 : Int), (0 : Int), ()) : Dcontent)⟩) none <| .op (.st 11 (.t 46) 2) none <| .op (.mv 12 (.t 47)) none <| .nil)) <|
  (.seq (.reg (.op (.mv 48 (.t 12)) none <| .op (.un 49 .not (.t 48)) none <| .op (.mv 50 (.t 49)) none <| .grp 50 false (.op (.alsM 51 3) (some ([3, 50, 51], [51])) <| .op (.ld 52 11 2 true) (some ([11, 50, 52], [52])) <| .op (.mget 53 51 (.t 52) Tcontent ⟨.int .i64, ((0 : Int) : Int)⟩) (some ([3, 50, 51, 52, 53], [53])) <| .op (.mv 54 (.t 9)) (some ([9, 50, 54], [54])) <| .op (.bin 55 .eql (.t 53) (.t 54)) (some ([50, 53, 54, 55], [55])) <| .nil) 55 56 [51, 52, 53, 54, 55] <| .nil)) <|
  (.cond (.t 56)
  (.pre [.keep [3, 8, 10, 36, 37, 38]] (.reg (.op (.take 57 8) none <| .op (.ld 58 10 9 true) none <| .op (.bsl 59 TRecord [(.t 58)]) none <| .op (.app 60 57 (.t 59) 88 9) none <| .op (.take 8 60) none <| .nil)))
  .skip))))) [.keep [3, 8, 36, 37, 38]]) X7))) [.keep [3, 8, 36, 37, 38]])
noncomputable abbrev cml_Optimise.cb6 (n : Nat) : XC := cml_Optimise.db6 n (cml_Optimise.c7 n)
theorem cml_Optimise.q2_0_r (n : Nat) (X : XC) (x8 : List DRecord) : cml_Optimise.H2 n X [(8, some ⟨.slX .N TRecord, x8⟩)] = (ev X [(8, some ⟨.slX .N TRecord, x8⟩)] (⟨retK cml_Optimise.rs cml_Optimise.ps cml_Optimise.r, []⟩ : Ks cml_Optimise.R) (retK cml_Optimise.rs cml_Optimise.ps cml_Optimise.r) : Option cml_Optimise.R) := by kernel_rfl
theorem cml_Optimise.q2_0 (n : Nat) (x8 : List DRecord) : cml_Optimise.K2 n [(8, some ⟨.slX .N TRecord, x8⟩)] = cml_Optimise.j2 n x8 := (cml_Optimise.q2_0_r n (cml_Optimise.c2 n) x8).trans (cml_Optimise.s2 n x8)
noncomputable def cml_Optimise.l6 (n : Nat) : Nat → (List (Dcontent × Int)) → (List DRecord) → (List DRecord) → Int → Int → Option (List DRecord)
  | 0, _, _, _, _, _ => none
  | k + 1, x3, x8, x36, x37, x38 =>
  bif (decide (x38 < x37)) then (idxK x36 x38 fun e1 => (cml_of.f n ((e1.1.1, e1.1.2.1, e1.1.2.2.1, e1.1.2.2.2.1, e1.1.2.2.2.2.1, e1.1.2.2.2.2.2.1, e1.1.2.2.2.2.2.2.1, e1.1.2.2.2.2.2.2.2.1, e1.1.2.2.2.2.2.2.2.2), e1.2.1, e1.2.2)).bind fun r2 => (bif (!r2.2.1) then some true else (optM (mapGet1 (r2.1 : Dcontent) x3) (some (decide ((0 : Int) = x38))) fun m4 => some (decide (m4 = x38)))).bind fun g3 =>
  bif g3 then (appK x8.length ([e1] : List DRecord).length 88 (cml_Optimise.j7 n (cml_Optimise.l6 n k) x3 (x8 ++ ([e1] : List DRecord)) x36 x37 x38))
  else (cml_Optimise.j7 n (cml_Optimise.l6 n k) x3 x8 x36 x37 x38))
  else (cml_Optimise.j2 n x8)
theorem cml_Optimise.wb6 (n : Nat) (Kr6 : St → Option cml_Optimise.R) (x3 : List (Dcontent × Int)) (x8 : List DRecord) (x36 : List DRecord) (x37 : Int) (x38 : Int) (K2 : St → Option cml_Optimise.R) (X7 : XC) : ev (cml_Optimise.db6 n X7) (keepSt [(3, some ⟨.map Tcontent (.int .i64), x3⟩), (8, some ⟨.slX .N TRecord, x8⟩), (36, some ⟨.slB .U false TRecord, x36⟩), (37, some ⟨.int .i64, x37⟩), (38, some ⟨.int .i64, x38⟩)] [3, 8, 36, 37, 38]) (⟨retK cml_Optimise.rs cml_Optimise.ps cml_Optimise.r, [(2, K2)]⟩ : Ks cml_Optimise.R) Kr6 =
  (bif (decide (x38 < x37)) then (idxK x36 x38 fun e1 => (cml_of.f n ((e1.1.1, e1.1.2.1, e1.1.2.2.1, e1.1.2.2.2.1, e1.1.2.2.2.2.1, e1.1.2.2.2.2.2.1, e1.1.2.2.2.2.2.2.1, e1.1.2.2.2.2.2.2.2.1, e1.1.2.2.2.2.2.2.2.2), e1.2.1, e1.2.2)).bind fun r2 => (bif (!r2.2.1) then some true else (optM (mapGet1 (r2.1 : Dcontent) x3) (some (decide ((0 : Int) = x38))) fun m4 => some (decide (m4 = x38)))).bind fun g3 =>
  bif g3 then (appK x8.length ([e1] : List DRecord).length 88 (ev X7 [(3, some ⟨.map Tcontent (.int .i64), x3⟩), (8, some ⟨.slX .N TRecord, ((x8 ++ ([e1] : List DRecord)) : List DRecord)⟩), (36, some ⟨.slB .U false TRecord, x36⟩), (37, some ⟨.int .i64, x37⟩), (38, some ⟨.int .i64, x38⟩)] (⟨retK cml_Optimise.rs cml_Optimise.ps cml_Optimise.r, [(2, K2)]⟩ : Ks cml_Optimise.R) (cml_Optimise.Kb6 Kr6)))
  else (ev X7 [(3, some ⟨.map Tcontent (.int .i64), x3⟩), (8, some ⟨.slX .N TRecord, x8⟩), (36, some ⟨.slB .U false TRecord, x36⟩), (37, some ⟨.int .i64, x37⟩), (38, some ⟨.int .i64, x38⟩)] (⟨retK cml_Optimise.rs cml_Optimise.ps cml_Optimise.r, [(2, K2)]⟩ : Ks cml_Optimise.R) (cml_Optimise.Kb6 Kr6)))
  else (K2 [(8, some ⟨.slX .N TRecord, x8⟩)]) : Option cml_Optimise.R) := by kernel_rfl
theorem cml_Optimise.l6_ok (n : Nat) (k : Nat) : ∀ (x3 : List (Dcontent × Int)) (x8 : List DRecord) (x36 : List DRecord) (x37 : Int) (x38 : Int), loopEv [3, 8, 36, 37, 38] (fun s K => ev (cml_Optimise.cb6 n) s (⟨retK cml_Optimise.rs cml_Optimise.ps cml_Optimise.r, [(2, (cml_Optimise.K2 n))]⟩ : Ks cml_Optimise.R) K) k [(3, some ⟨.map Tcontent (.int .i64), x3⟩), (8, some ⟨.slX .N TRecord, x8⟩), (36, some ⟨.slB .U false TRecord, x36⟩), (37, some ⟨.int .i64, x37⟩), (38, some ⟨.int .i64, x38⟩)] = cml_Optimise.l6 n k x3 x8 x36 x37 x38 := by
  induction k with
  | zero => intros; rfl
  | succ k ih =>
    intro x3 x8 x36 x37 x38
    exact (cml_Optimise.wb6 n (fun st => loopEv [3, 8, 36, 37, 38] (fun s K => ev (cml_Optimise.cb6 n) s (⟨retK cml_Optimise.rs cml_Optimise.ps cml_Optimise.r, [(2, (cml_Optimise.K2 n))]⟩ : Ks cml_Optimise.R) K) k st) x3 x8 x36 x37 x38 (cml_Optimise.K2 n) (cml_Optimise.c7 n)).trans (by simp -implicitDefEqProofs only [cml_Optimise.l6, cml_Optimise.s7 n (fun st => loopEv [3, 8, 36, 37, 38] (fun s K => ev (cml_Optimise.cb6 n) s (⟨retK cml_Optimise.rs cml_Optimise.ps cml_Optimise.r, [(2, (cml_Optimise.K2 n))]⟩ : Ks cml_Optimise.R) K) k st) (cml_Optimise.l6 n k) ih, cml_Optimise.q2_0 n] <;> kernel_rfl)
noncomputable def cml_Optimise.d1 (n : Nat) (X2 Y6 : XC) : XC :=
  (.seq (.reg (.op (.mv 8 (.c ⟨.nil 0, ()⟩)) none <| .nil)) <|
  (.seq (.aft (.seq (.reg (.op (.mv 36 (.t 0)) none <| .op (.len 37 (.t 36) false) none <| .op (.mv 38 (.c ⟨.int .i64, ((0 : Int) : Int)⟩)) none <| .nil)) <|
  (.block 2 (.pre [.coe 8 (.slX .N TRecord), .keep [3, 8, 36, 37, 38]] (.loop n [3, 8, 36, 37, 38] Y6)))) [.keep [8]]) X2))
noncomputable abbrev cml_Optimise.c1 (n : Nat) : XC := cml_Optimise.d1 n (cml_Optimise.c2 n) (cml_Optimise.cb6 n)
noncomputable def cml_Optimise.j1 (n : Nat) (x0 : List DRecord) (x3 : List (Dcontent × Int)) : Option (List DRecord) :=
  cml_Optimise.l6 n n x3 ([] : List DRecord) x0 (x0.length : Int) (0 : Int)
theorem cml_Optimise.w1 (n : Nat) (x0 : List DRecord) (x3 : List (Dcontent × Int)) (X2 Y6 : XC) : ev (cml_Optimise.d1 n X2 Y6) [(0, some ⟨.slB .U false TRecord, x0⟩), (3, some ⟨.map Tcontent (.int .i64), x3⟩)] (⟨retK cml_Optimise.rs cml_Optimise.ps cml_Optimise.r, []⟩ : Ks cml_Optimise.R) (retK cml_Optimise.rs cml_Optimise.ps cml_Optimise.r) =
  (loopEv [3, 8, 36, 37, 38] (fun s K => ev Y6 s (⟨retK cml_Optimise.rs cml_Optimise.ps cml_Optimise.r, [(2, (cml_Optimise.H2 n X2))]⟩ : Ks cml_Optimise.R) K) n [(3, some ⟨.map Tcontent (.int .i64), x3⟩), (8, some ⟨.slX .N TRecord, (([] : List DRecord) : List DRecord)⟩), (36, some ⟨.slB .U false TRecord, x0⟩), (37, some ⟨.int .i64, (x0.length : Int)⟩), (38, some ⟨.int .i64, (0 : Int)⟩)] : Option cml_Optimise.R) := by kernel_rfl
theorem cml_Optimise.s1 (n : Nat) (x0 : List DRecord) (x3 : List (Dcontent × Int)) : ev (cml_Optimise.c1 n) [(0, some ⟨.slB .U false TRecord, x0⟩), (3, some ⟨.map Tcontent (.int .i64), x3⟩)] (⟨retK cml_Optimise.rs cml_Optimise.ps cml_Optimise.r, []⟩ : Ks cml_Optimise.R) (retK cml_Optimise.rs cml_Optimise.ps cml_Optimise.r) = cml_Optimise.j1 n x0 x3 := (cml_Optimise.w1 n x0 x3 (cml_Optimise.c2 n) (cml_Optimise.cb6 n)).trans (by simp -implicitDefEqProofs only [cml_Optimise.j1, cml_Optimise.l6_ok n] <;> kernel_rfl)
noncomputable def cml_Optimise.H1 (n : Nat) (X : XC) : St → Option cml_Optimise.R := fun st => ghK [.keep [0, 3]] st fun st => ev X st (⟨retK cml_Optimise.rs cml_Optimise.ps cml_Optimise.r, []⟩ : Ks cml_Optimise.R) (retK cml_Optimise.rs cml_Optimise.ps cml_Optimise.r)
noncomputable abbrev cml_Optimise.K1 (n : Nat) : St → Option cml_Optimise.R := cml_Optimise.H1 n (cml_Optimise.c1 n)
noncomputable def cml_Optimise.Kb8 (Kr8 : St → Option cml_Optimise.R) : St → Option cml_Optimise.R := fun st => ghK [.keep [0, 3, 19, 20, 21]] st Kr8
noncomputable def cml_Optimise.d9 (n : Nat) : XC :=
  (.aft (.reg (.op (.bin 35 .add (.t 21) (.c ⟨.int .i64, ((1 : Int) : Int)⟩)) none <| .op (.mv 21 (.t 35)) none <| .nil)) [.keep [0, 3, 19, 20, 21]])
noncomputable abbrev cml_Optimise.c9 (n : Nat) : XC := cml_Optimise.d9 n
theorem cml_Optimise.qb8_0 (Kr8 : St → Option cml_Optimise.R) (kr8 : (List DRecord) → (List (Dcontent × Int)) → (List DRecord) → Int → Int → Option (List DRecord)) (hK8 : ∀ (x0 : List DRecord) (x3 : List (Dcontent × Int)) (x19 : List DRecord) (x20 : Int) (x21 : Int), Kr8 [(0, some ⟨.slB .U false TRecord, x0⟩), (3, some ⟨.map Tcontent (.int .i64), x3⟩), (19, some ⟨.slB .U false TRecord, x19⟩), (20, some ⟨.int .i64, x20⟩), (21, some ⟨.int .i64, x21⟩)] = kr8 x0 x3 x19 x20 x21) (x0 : List DRecord) (x3 : List (Dcontent × Int)) (x19 : List DRecord) (x20 : Int) (x21 : Int) : cml_Optimise.Kb8 Kr8 [(0, some ⟨.slB .U false TRecord, x0⟩), (3, some ⟨.map Tcontent (.int .i64), x3⟩), (19, some ⟨.slB .U false TRecord, x19⟩), (20, some ⟨.int .i64, x20⟩), (21, some ⟨.int .i64, x21⟩)] = kr8 x0 x3 x19 x20 x21 := (by kernel_rfl : _ = Kr8 [(0, some ⟨.slB .U false TRecord, x0⟩), (3, some ⟨.map Tcontent (.int .i64), x3⟩), (19, some ⟨.slB .U false TRecord, x19⟩), (20, some ⟨.int .i64, x20⟩), (21, some ⟨.int .i64, x21⟩)]).trans (hK8 x0 x3 x19 x20 x21)
noncomputable def cml_Optimise.j9 (n : Nat) (kr8 : (List DRecord) → (List (Dcontent × Int)) → (List DRecord) → Int → Int → Option (List DRecord)) (x0 : List DRecord) (x3 : List (Dcontent × Int)) (x19 : List DRecord) (x20 : Int) (x21 : Int) : Option (List DRecord) :=
  kr8 x0 x3 x19 x20 (IntKind.i64.wrap (x21 + (1 : Int)))
theorem cml_Optimise.w9 (n : Nat) (Kr8 : St → Option cml_Optimise.R) (x0 : List DRecord) (x3 : List (Dcontent × Int)) (x19 : List DRecord) (x20 : Int) (x21 : Int) (K1 : St → Option cml_Optimise.R) (Kb8 : St → Option cml_Optimise.R) : ev (cml_Optimise.d9 n) [(0, some ⟨.slB .U false TRecord, x0⟩), (3, some ⟨.map Tcontent (.int .i64), x3⟩), (19, some ⟨.slB .U false TRecord, x19⟩), (20, some ⟨.int .i64, x20⟩), (21, some ⟨.int .i64, x21⟩)] (⟨retK cml_Optimise.rs cml_Optimise.ps cml_Optimise.r, [(0, K1)]⟩ : Ks cml_Optimise.R) Kb8 =
  (Kb8 [(0, some ⟨.slB .U false TRecord, x0⟩), (3, some ⟨.map Tcontent (.int .i64), x3⟩), (19, some ⟨.slB .U false TRecord, x19⟩), (20, some ⟨.int .i64, x20⟩), (21, some ⟨.int .i64, (IntKind.i64.wrap (x21 + (1 : Int)))⟩)] : Option cml_Optimise.R) := by kernel_rfl
theorem cml_Optimise.s9 (n : Nat) (Kr8 : St → Option cml_Optimise.R) (kr8 : (List DRecord) → (List (Dcontent × Int)) → (List DRecord) → Int → Int → Option (List DRecord)) (hK8 : ∀ (x0 : List DRecord) (x3 : List (Dcontent × Int)) (x19 : List DRecord) (x20 : Int) (x21 : Int), Kr8 [(0, some ⟨.slB .U false TRecord, x0⟩), (3, some ⟨.map Tcontent (.int .i64), x3⟩), (19, some ⟨.slB .U false TRecord, x19⟩), (20, some ⟨.int .i64, x20⟩), (21, some ⟨.int .i64, x21⟩)] = kr8 x0 x3 x19 x20 x21) (x0 : List DRecord) (x3 : List (Dcontent × Int)) (x19 : List DRecord) (x20 : Int) (x21 : Int) : ev (cml_Optimise.c9 n) [(0, some ⟨.slB .U false TRecord, x0⟩), (3, some ⟨.map Tcontent (.int .i64), x3⟩), (19, some ⟨.slB .U false TRecord, x19⟩), (20, some ⟨.int .i64, x20⟩), (21, some ⟨.int .i64, x21⟩)] (⟨retK cml_Optimise.rs cml_Optimise.ps cml_Optimise.r, [(0, (cml_Optimise.K1 n))]⟩ : Ks cml_Optimise.R) (cml_Optimise.Kb8 Kr8) = cml_Optimise.j9 n kr8 x0 x3 x19 x20 x21 := (cml_Optimise.w9 n Kr8 x0 x3 x19 x20 x21 (cml_Optimise.K1 n) (cml_Optimise.Kb8 Kr8)).trans (by simp -implicitDefEqProofs only [cml_Optimise.j9, cml_Optimise.qb8_0 Kr8 kr8 hK8] <;> kernel_rfl)
noncomputable def cml_Optimise.H9 (n : Nat) (K1 : St → Option cml_Optimise.R) (Kb8 : St → Option cml_Optimise.R) (X : XC) : St → Option cml_Optimise.R := fun st => ghK [.keep [0, 3, 19, 20, 21]] st fun st => ev X st (⟨retK cml_Optimise.rs cml_Optimise.ps cml_Optimise.r, [(0, K1)]⟩ : Ks cml_Optimise.R) Kb8
noncomputable abbrev cml_Optimise.K9 (n : Nat) (Kr8 : St → Option cml_Optimise.R) : St → Option cml_Optimise.R := cml_Optimise.H9 n (cml_Optimise.K1 n) (cml_Optimise.Kb8 Kr8) (cml_Optimise.c9 n)
noncomputable def cml_Optimise.db8 (n : Nat) (X9 : XC) : XC :=
  (.aft (.seq (.reg (.op (.bin 22 .lss (.t 21) (.t 20)) none <| .nil)) <|
  (.seq (.cond (.t 22)
  .skip
  (.pre [.keep [0, 3]] (.exit 0))) <|
  (.seq (.aft (.block 1 (.seq (.reg (.op (.mv 23 (.t 21)) none <| .op (.idxA 24 (.t 19) (.t 21) 9 0) none <| .op (.ld 25 24 9 true) none <| .op (.alloc 5 ⟨TRecord, ((((0 : Int), (0 : Int), (0 : Int), ([] : List Int), (0 : Int), ([] : List Int), (0 : Int), ([] : List Int), ()), (0 : Int), ()) : DRecord)⟩) none <| .op (.mv 4 (.t 23)) none <| .op (.st 5 (.t 25) 9) none <| .nil)) <|
  (.seq (.reg (.op (.ld 27 5 9 true) none <| .op (.call (some 28) (cml_of.sp n) [.v (.t 27)]) none <| .op (.take 26 28) none <| .op (.ext 29 26 0) none <| .op (.ext 30 26 1) none <| .op (.alloc 6 ⟨Tcontent, (((0 : Int), (0 : Int), ()) : Dcontent)⟩) none <| .op (.st 6 (.t 29) 2) none <| .op (.mv 7 (.t 30)) none <| .nil)) <|
  (.seq (.reg (.op (.mv 31 (.t 7)) none <| .nil)) <|
  (.cond (.t 31)
  (.pre [.keep [0, 3, 4, 6, 19, 20, 21]] (.reg (.op (.alsM 32 3) none <| .op (.ld 33 6 2 true) none <| .op (.mv 34 (.t 4)) none <| .op (.mset 32 (.t 33) (.t 34) Tcontent (.int .i64)) none <| .nil)))
  .skip))))) [.keep [0, 3, 19, 20, 21]]) X9))) [.keep [0, 3, 19, 20, 21]])
noncomputable abbrev cml_Optimise.cb8 (n : Nat) : XC := cml_Optimise.db8 n (cml_Optimise.c9 n)
theorem cml_Optimise.q1_0_r (n : Nat) (X : XC) (x0 : List DRecord) (x3 : List (Dcontent × Int)) : cml_Optimise.H1 n X [(0, some ⟨.slB .U false TRecord, x0⟩), (3, some ⟨.map Tcontent (.int .i64), x3⟩)] = (ev X [(0, some ⟨.slB .U false TRecord, x0⟩), (3, some ⟨.map Tcontent (.int .i64), x3⟩)] (⟨retK cml_Optimise.rs cml_Optimise.ps cml_Optimise.r, []⟩ : Ks cml_Optimise.R) (retK cml_Optimise.rs cml_Optimise.ps cml_Optimise.r) : Option cml_Optimise.R) := by kernel_rfl
theorem cml_Optimise.q1_0 (n : Nat) (x0 : List DRecord) (x3 : List (Dcontent × Int)) : cml_Optimise.K1 n [(0, some ⟨.slB .U false TRecord, x0⟩), (3, some ⟨.map Tcontent (.int .i64), x3⟩)] = cml_Optimise.j1 n x0 x3 := (cml_Optimise.q1_0_r n (cml_Optimise.c1 n) x0 x3).trans (cml_Optimise.s1 n x0 x3)
noncomputable def cml_Optimise.l8 (n : Nat) : Nat → (List DRecord) → (List (Dcontent × Int)) → (List DRecord) → Int → Int → Option (List DRecord)
  | 0, _, _, _, _, _ => none
  | k + 1, x0, x3, x19, x20, x21 =>
  bif (decide (x21 < x20)) then (idxK x19 x21 fun e1 => (cml_of.f n ((e1.1.1, e1.1.2.1, e1.1.2.2.1, e1.1.2.2.2.1, e1.1.2.2.2.2.1, e1.1.2.2.2.2.2.1, e1.1.2.2.2.2.2.2.1, e1.1.2.2.2.2.2.2.2.1, e1.1.2.2.2.2.2.2.2.2), e1.2.1, e1.2.2)).bind fun r2 => bif r2.2.1 then (cml_Optimise.j9 n (cml_Optimise.l8 n k) x0 (mapSet1 (r2.1 : Dcontent) (x21 : Int) x3) x19 x20 x21)
  else (cml_Optimise.j9 n (cml_Optimise.l8 n k) x0 x3 x19 x20 x21))
  else (cml_Optimise.j1 n x0 x3)
theorem cml_Optimise.wb8 (n : Nat) (Kr8 : St → Option cml_Optimise.R) (x0 : List DRecord) (x3 : List (Dcontent × Int)) (x19 : List DRecord) (x20 : Int) (x21 : Int) (K1 : St → Option cml_Optimise.R) (X9 : XC) : ev (cml_Optimise.db8 n X9) (keepSt [(0, some ⟨.slB .U false TRecord, x0⟩), (3, some ⟨.map Tcontent (.int .i64), x3⟩), (19, some ⟨.slB .U false TRecord, x19⟩), (20, some ⟨.int .i64, x20⟩), (21, some ⟨.int .i64, x21⟩)] [0, 3, 19, 20, 21]) (⟨retK cml_Optimise.rs cml_Optimise.ps cml_Optimise.r, [(0, K1)]⟩ : Ks cml_Optimise.R) Kr8 =
  (bif (decide (x21 < x20)) then (idxK x19 x21 fun e1 => (cml_of.f n ((e1.1.1, e1.1.2.1, e1.1.2.2.1, e1.1.2.2.2.1, e1.1.2.2.2.2.1, e1.1.2.2.2.2.2.1, e1.1.2.2.2.2.2.2.1, e1.1.2.2.2.2.2.2.2.1, e1.1.2.2.2.2.2.2.2.2), e1.2.1, e1.2.2)).bind fun r2 => bif r2.2.1 then (ev X9 [(0, some ⟨.slB .U false TRecord, x0⟩), (3, some ⟨.map Tcontent (.int .i64), ((mapSet1 (r2.1 : Dcontent) (x21 : Int) x3) : List (Dcontent × Int))⟩), (19, some ⟨.slB .U false TRecord, x19⟩), (20, some ⟨.int .i64, x20⟩), (21, some ⟨.int .i64, x21⟩)] (⟨retK cml_Optimise.rs cml_Optimise.ps cml_Optimise.r, [(0, K1)]⟩ : Ks cml_Optimise.R) (cml_Optimise.Kb8 Kr8))
  else (ev X9 [(0, some ⟨.slB .U false TRecord, x0⟩), (3, some ⟨.map Tcontent (.int .i64), x3⟩), (19, some ⟨.slB .U false TRecord, x19⟩), (20, some ⟨.int .i64, x20⟩), (21, some ⟨.int .i64, x21⟩)] (⟨retK cml_Optimise.rs cml_Optimise.ps cml_Optimise.r, [(0, K1)]⟩ : Ks cml_Optimise.R) (cml_Optimise.Kb8 Kr8)))
  else (K1 [(0, some ⟨.slB .U false TRecord, x0⟩), (3, some ⟨.map Tcontent (.int .i64), x3⟩)]) : Option cml_Optimise.R) := by kernel_rfl
theorem cml_Optimise.l8_ok (n : Nat) (k : Nat) : ∀ (x0 : List DRecord) (x3 : List (Dcontent × Int)) (x19 : List DRecord) (x20 : Int) (x21 : Int), loopEv [0, 3, 19, 20, 21] (fun s K => ev (cml_Optimise.cb8 n) s (⟨retK cml_Optimise.rs cml_Optimise.ps cml_Optimise.r, [(0, (cml_Optimise.K1 n))]⟩ : Ks cml_Optimise.R) K) k [(0, some ⟨.slB .U false TRecord, x0⟩), (3, some ⟨.map Tcontent (.int .i64), x3⟩), (19, some ⟨.slB .U false TRecord, x19⟩), (20, some ⟨.int .i64, x20⟩), (21, some ⟨.int .i64, x21⟩)] = cml_Optimise.l8 n k x0 x3 x19 x20 x21 := by
  induction k with
  | zero => intros; rfl
  | succ k ih =>
    intro x0 x3 x19 x20 x21
    exact (cml_Optimise.wb8 n (fun st => loopEv [0, 3, 19, 20, 21] (fun s K => ev (cml_Optimise.cb8 n) s (⟨retK cml_Optimise.rs cml_Optimise.ps cml_Optimise.r, [(0, (cml_Optimise.K1 n))]⟩ : Ks cml_Optimise.R) K) k st) x0 x3 x19 x20 x21 (cml_Optimise.K1 n) (cml_Optimise.c9 n)).trans (by simp -implicitDefEqProofs only [cml_Optimise.l8, cml_Optimise.s9 n (fun st => loopEv [0, 3, 19, 20, 21] (fun s K => ev (cml_Optimise.cb8 n) s (⟨retK cml_Optimise.rs cml_Optimise.ps cml_Optimise.r, [(0, (cml_Optimise.K1 n))]⟩ : Ks cml_Optimise.R) K) k st) (cml_Optimise.l8 n k) ih, cml_Optimise.q1_0 n] <;> kernel_rfl)
noncomputable def cml_Optimise.d (n : Nat) (X1 Y8 : XC) : XC :=
  (.seq (.reg (.op (.mv 2 (.c ⟨.nil 0, ()⟩)) none <| .nil)) <|
  (.seq (.reg (.op (.mkmap 18 Tcontent (.int .i64)) none <| .op (.take 3 18) none <| .nil)) <|
  (.seq (.aft (.seq (.reg (.op (.mv 19 (.t 0)) none <| .op (.len 20 (.t 19) false) none <| .op (.mv 21 (.c ⟨.int .i64, ((0 : Int) : Int)⟩)) none <| .nil)) <|
  (.block 0 (.pre [.keep [0, 3, 19, 20, 21]] (.loop n [0, 3, 19, 20, 21] Y8)))) [.keep [0, 3]]) X1)))
noncomputable abbrev cml_Optimise.c (n : Nat) : XC := cml_Optimise.d n (cml_Optimise.c1 n) (cml_Optimise.cb8 n)
noncomputable def cml_Optimise.f (n : Nat) (a0 : List DRecord) : Option (List DRecord) :=
  cml_Optimise.l8 n n a0 ([] : List (Dcontent × Int)) a0 (a0.length : Int) (0 : Int)
theorem cml_Optimise.w (n : Nat) (a0 : List DRecord) (X1 Y8 : XC) : evFn (cml_Optimise.d n X1 Y8) cml_Optimise.rs cml_Optimise.ps cml_Optimise.r (a0, ()) =
  (loopEv [0, 3, 19, 20, 21] (fun s K => ev Y8 s (⟨retK cml_Optimise.rs cml_Optimise.ps cml_Optimise.r, [(0, (cml_Optimise.H1 n X1))]⟩ : Ks cml_Optimise.R) K) n [(0, some ⟨.slB .U false TRecord, a0⟩), (3, some ⟨.map Tcontent (.int .i64), (([] : List (Dcontent × Int)) : List (Dcontent × Int))⟩), (19, some ⟨.slB .U false TRecord, a0⟩), (20, some ⟨.int .i64, (a0.length : Int)⟩), (21, some ⟨.int .i64, (0 : Int)⟩)] : Option cml_Optimise.R) := by kernel_rfl
theorem cml_Optimise.ok (n : Nat) (a0 : List DRecord) : evFn (cml_Optimise.c n) cml_Optimise.rs cml_Optimise.ps cml_Optimise.r (a0, ()) = cml_Optimise.f n a0 := (cml_Optimise.w n a0 (cml_Optimise.c1 n) (cml_Optimise.cb8 n)).trans (by simp -implicitDefEqProofs only [cml_Optimise.f, cml_Optimise.l8_ok n] <;> kernel_rfl)
noncomputable def cml_Optimise.sp (n : Nat) : FSpec := { f := 13, ps := cml_Optimise.ps, r := cml_Optimise.r, run := fun x => cml_Optimise.f n x.1 }
theorem cml_Optimise.calls (n : Nat) : (cml_Optimise.c n).calls = [cml_of.sp n, cml_of.sp n, cml_pair.sp n, slices_Clone.sp n, slices_DeleteFunc_31.sp n, slices_Concat.sp n, cml_pair.sp n] := by kernel_rfl
theorem cml_Optimise.fits (n : Nat) : fnB tab hd Try.f13 (cml_Optimise.c n) cml_Optimise.rs (cml_Optimise.sp n).ps (cml_Optimise.sp n).r = true := by kernel_rfl
theorem cml_Optimise.sound (n : Nat) : Sound Try.prog (cml_Optimise.sp n) := by
  refine fnB_sound tabOk eqFacts mixed (fn := Try.f13) (c := cml_Optimise.c n) (rs := cml_Optimise.rs) (by kernel_rfl) ?_ (cml_Optimise.fits n) ?_
  · rw [cml_Optimise.calls]
    intro s hs
    simp only [List.mem_cons, List.not_mem_nil, or_false] at hs
    rcases hs with rfl | rfl | rfl | rfl | rfl | rfl | rfl
    · exact cml_of.meets n
    · exact cml_of.meets n
    · exact cml_pair.meets n
    · exact slices_Clone.meets n
    · exact slices_DeleteFunc_31.meets n
    · exact slices_Concat.meets n
    · exact cml_pair.meets n
  · rintro ⟨a0, ⟨⟩⟩ y h
    exact (cml_Optimise.ok n a0).trans h
theorem cml_Optimise.meets (n : Nat) : Meets Try.prog (cml_Optimise.sp n) := (cml_Optimise.sound n).meets
/-! slices.Equal[[]backwater/api.Record,backwater/api.Record] -/
abbrev slices_Equal.ps : List (Ty × Bool) := [(.slB .U false TRecord, false), (.slB .U false TRecord, false)]
abbrev slices_Equal.r : Ty := .bool
abbrev slices_Equal.rs : List RV := [.t 4]
abbrev slices_Equal.R : Type := (rtOf slices_Equal.ps slices_Equal.r).den
noncomputable def slices_Equal.d1 (n : Nat) : XC :=
  (.seq (.reg (.op (.mv 4 (.c ⟨.bool, (true : Bool)⟩)) none <| .nil)) <|
  .ret)
noncomputable abbrev slices_Equal.c1 (n : Nat) : XC := slices_Equal.d1 n
noncomputable def slices_Equal.j1 (n : Nat)  : Option Bool :=
  some true
theorem slices_Equal.s1 (n : Nat)  : ev (slices_Equal.c1 n) [] (⟨retK slices_Equal.rs slices_Equal.ps slices_Equal.r, []⟩ : Ks slices_Equal.R) (retK slices_Equal.rs slices_Equal.ps slices_Equal.r) = slices_Equal.j1 n  := by kernel_rfl
noncomputable def slices_Equal.H1 (n : Nat) (X : XC) : St → Option slices_Equal.R := fun st => ghK [.keep []] st fun st => ev X st (⟨retK slices_Equal.rs slices_Equal.ps slices_Equal.r, []⟩ : Ks slices_Equal.R) (retK slices_Equal.rs slices_Equal.ps slices_Equal.r)
noncomputable abbrev slices_Equal.K1 (n : Nat) : St → Option slices_Equal.R := slices_Equal.H1 n (slices_Equal.c1 n)
noncomputable def slices_Equal.Kb2 (Kr2 : St → Option slices_Equal.R) : St → Option slices_Equal.R := fun st => ghK [.keep [0, 1, 12, 13]] st Kr2
noncomputable def slices_Equal.d3 (n : Nat) : XC :=
  (.aft (.reg (.op (.bin 25 .add (.t 13) (.c ⟨.int .i64, ((1 : Int) : Int)⟩)) none <| .op (.mv 13 (.t 25)) none <| .nil)) [.keep [0, 1, 12, 13]])
noncomputable abbrev slices_Equal.c3 (n : Nat) : XC := slices_Equal.d3 n
theorem slices_Equal.qb2_0 (Kr2 : St → Option slices_Equal.R) (kr2 : (List DRecord) → (List DRecord) → Int → Int → Option Bool) (hK2 : ∀ (x0 : List DRecord) (x1 : List DRecord) (x12 : Int) (x13 : Int), Kr2 [(0, some ⟨.slB .U false TRecord, x0⟩), (1, some ⟨.slB .U false TRecord, x1⟩), (12, some ⟨.int .i64, x12⟩), (13, some ⟨.int .i64, x13⟩)] = kr2 x0 x1 x12 x13) (x0 : List DRecord) (x1 : List DRecord) (x12 : Int) (x13 : Int) : slices_Equal.Kb2 Kr2 [(0, some ⟨.slB .U false TRecord, x0⟩), (1, some ⟨.slB .U false TRecord, x1⟩), (12, some ⟨.int .i64, x12⟩), (13, some ⟨.int .i64, x13⟩)] = kr2 x0 x1 x12 x13 := (by kernel_rfl : _ = Kr2 [(0, some ⟨.slB .U false TRecord, x0⟩), (1, some ⟨.slB .U false TRecord, x1⟩), (12, some ⟨.int .i64, x12⟩), (13, some ⟨.int .i64, x13⟩)]).trans (hK2 x0 x1 x12 x13)
noncomputable def slices_Equal.j3 (n : Nat) (kr2 : (List DRecord) → (List DRecord) → Int → Int → Option Bool) (x0 : List DRecord) (x1 : List DRecord) (x12 : Int) (x13 : Int) : Option Bool :=
  kr2 x0 x1 x12 (IntKind.i64.wrap (x13 + (1 : Int)))
theorem slices_Equal.w3 (n : Nat) (Kr2 : St → Option slices_Equal.R) (x0 : List DRecord) (x1 : List DRecord) (x12 : Int) (x13 : Int) (K1 : St → Option slices_Equal.R) (Kb2 : St → Option slices_Equal.R) : ev (slices_Equal.d3 n) [(0, some ⟨.slB .U false TRecord, x0⟩), (1, some ⟨.slB .U false TRecord, x1⟩), (12, some ⟨.int .i64, x12⟩), (13, some ⟨.int .i64, x13⟩)] (⟨retK slices_Equal.rs slices_Equal.ps slices_Equal.r, [(0, K1)]⟩ : Ks slices_Equal.R) Kb2 =
  (Kb2 [(0, some ⟨.slB .U false TRecord, x0⟩), (1, some ⟨.slB .U false TRecord, x1⟩), (12, some ⟨.int .i64, x12⟩), (13, some ⟨.int .i64, (IntKind.i64.wrap (x13 + (1 : Int)))⟩)] : Option slices_Equal.R) := by kernel_rfl
theorem slices_Equal.s3 (n : Nat) (Kr2 : St → Option slices_Equal.R) (kr2 : (List DRecord) → (List DRecord) → Int → Int → Option Bool) (hK2 : ∀ (x0 : List DRecord) (x1 : List DRecord) (x12 : Int) (x13 : Int), Kr2 [(0, some ⟨.slB .U false TRecord, x0⟩), (1, some ⟨.slB .U false TRecord, x1⟩), (12, some ⟨.int .i64, x12⟩), (13, some ⟨.int .i64, x13⟩)] = kr2 x0 x1 x12 x13) (x0 : List DRecord) (x1 : List DRecord) (x12 : Int) (x13 : Int) : ev (slices_Equal.c3 n) [(0, some ⟨.slB .U false TRecord, x0⟩), (1, some ⟨.slB .U false TRecord, x1⟩), (12, some ⟨.int .i64, x12⟩), (13, some ⟨.int .i64, x13⟩)] (⟨retK slices_Equal.rs slices_Equal.ps slices_Equal.r, [(0, (slices_Equal.K1 n))]⟩ : Ks slices_Equal.R) (slices_Equal.Kb2 Kr2) = slices_Equal.j3 n kr2 x0 x1 x12 x13 := (slices_Equal.w3 n Kr2 x0 x1 x12 x13 (slices_Equal.K1 n) (slices_Equal.Kb2 Kr2)).trans (by simp -implicitDefEqProofs only [slices_Equal.j3, slices_Equal.qb2_0 Kr2 kr2 hK2] <;> kernel_rfl)
noncomputable def slices_Equal.H3 (n : Nat) (K1 : St → Option slices_Equal.R) (Kb2 : St → Option slices_Equal.R) (X : XC) : St → Option slices_Equal.R := fun st => ghK [.keep [0, 1, 12, 13]] st fun st => ev X st (⟨retK slices_Equal.rs slices_Equal.ps slices_Equal.r, [(0, K1)]⟩ : Ks slices_Equal.R) Kb2
noncomputable abbrev slices_Equal.K3 (n : Nat) (Kr2 : St → Option slices_Equal.R) : St → Option slices_Equal.R := slices_Equal.H3 n (slices_Equal.K1 n) (slices_Equal.Kb2 Kr2) (slices_Equal.c3 n)
noncomputable def slices_Equal.db2 (n : Nat) (X3 : XC) : XC :=
  (.aft (.seq (.reg (.op (.bin 14 .lss (.t 13) (.t 12)) none <| .nil)) <|
  (.seq (.cond (.t 14)
  .skip
  (.pre [.keep []] (.exit 0))) <|
  (.seq (.aft (.block 1 (.seq (.reg (.op (.mv 15 (.t 13)) none <| .op (.mv 5 (.t 15)) none <| .nil)) <|
  (.seq (.regD (.op (.mv 16 (.t 0)) (some ([0, 16], [16])) <| .op (.mv 17 (.t 5)) (some ([5, 17], [17])) <| .op (.idxA 18 (.t 16) (.t 17) 9 0) (some ([16, 17, 18], [18])) <| .op (.ld 19 18 9 true) (some ([18, 19], [19])) <| .op (.mv 20 (.t 1)) (some ([1, 20], [20])) <| .op (.mv 21 (.t 5)) (some ([5, 21], [21])) <| .op (.idxA 22 (.t 20) (.t 21) 9 0) (some ([20, 21, 22], [22])) <| .op (.ld 23 22 9 true) (some ([22, 23], [23])) <| .op (.eqs 24 true (.t 19) (.t 23) TRecord) (some ([19, 23, 24], [24])) <| .nil)) <|
  (.cond (.t 24)
  (.seq (.pre [.keep []] (.reg (.op (.mv 4 (.c ⟨.bool, (false : Bool)⟩)) none <| .nil))) <|
  .ret)
  .skip)))) [.keep [0, 1, 12, 13]]) X3))) [.keep [0, 1, 12, 13]])
noncomputable abbrev slices_Equal.cb2 (n : Nat) : XC := slices_Equal.db2 n (slices_Equal.c3 n)
theorem slices_Equal.q1_0_r (n : Nat) (X : XC)  : slices_Equal.H1 n X [] = (ev X [] (⟨retK slices_Equal.rs slices_Equal.ps slices_Equal.r, []⟩ : Ks slices_Equal.R) (retK slices_Equal.rs slices_Equal.ps slices_Equal.r) : Option slices_Equal.R) := by kernel_rfl
theorem slices_Equal.q1_0 (n : Nat)  : slices_Equal.K1 n [] = slices_Equal.j1 n  := (slices_Equal.q1_0_r n (slices_Equal.c1 n) ).trans (slices_Equal.s1 n )
noncomputable def slices_Equal.l2 (n : Nat) : Nat → (List DRecord) → (List DRecord) → Int → Int → Option Bool
  | 0, _, _, _, _ => none
  | k + 1, x0, x1, x12, x13 =>
  bif (decide (x13 < x12)) then (idxK x0 x13 fun e1 => idxK x1 x13 fun e2 => bif (!((eqI e1.1.1 e2.1.1 && (eqI e1.1.2.1 e2.1.2.1 && (eqI e1.1.2.2.1 e2.1.2.2.1 && (eqS e1.1.2.2.2.1 e2.1.2.2.2.1 && (eqI e1.1.2.2.2.2.1 e2.1.2.2.2.2.1 && (eqS e1.1.2.2.2.2.2.1 e2.1.2.2.2.2.2.1 && (eqI e1.1.2.2.2.2.2.2.1 e2.1.2.2.2.2.2.2.1 && (eqS e1.1.2.2.2.2.2.2.2.1 e2.1.2.2.2.2.2.2.2.1 && true)))))))) && (eqI e1.2.1 e2.2.1 && true))) then (some false)
  else (slices_Equal.j3 n (slices_Equal.l2 n k) x0 x1 x12 x13))
  else (slices_Equal.j1 n )
theorem slices_Equal.wb2 (n : Nat) (Kr2 : St → Option slices_Equal.R) (x0 : List DRecord) (x1 : List DRecord) (x12 : Int) (x13 : Int) (K1 : St → Option slices_Equal.R) (X3 : XC) : ev (slices_Equal.db2 n X3) (keepSt [(0, some ⟨.slB .U false TRecord, x0⟩), (1, some ⟨.slB .U false TRecord, x1⟩), (12, some ⟨.int .i64, x12⟩), (13, some ⟨.int .i64, x13⟩)] [0, 1, 12, 13]) (⟨retK slices_Equal.rs slices_Equal.ps slices_Equal.r, [(0, K1)]⟩ : Ks slices_Equal.R) Kr2 =
  (bif (decide (x13 < x12)) then (idxK x0 x13 fun e1 => idxK x1 x13 fun e2 => bif (!((eqI e1.1.1 e2.1.1 && (eqI e1.1.2.1 e2.1.2.1 && (eqI e1.1.2.2.1 e2.1.2.2.1 && (eqS e1.1.2.2.2.1 e2.1.2.2.2.1 && (eqI e1.1.2.2.2.2.1 e2.1.2.2.2.2.1 && (eqS e1.1.2.2.2.2.2.1 e2.1.2.2.2.2.2.1 && (eqI e1.1.2.2.2.2.2.2.1 e2.1.2.2.2.2.2.2.1 && (eqS e1.1.2.2.2.2.2.2.2.1 e2.1.2.2.2.2.2.2.2.1 && true)))))))) && (eqI e1.2.1 e2.2.1 && true))) then (some false)
  else (ev X3 [(0, some ⟨.slB .U false TRecord, x0⟩), (1, some ⟨.slB .U false TRecord, x1⟩), (12, some ⟨.int .i64, x12⟩), (13, some ⟨.int .i64, x13⟩)] (⟨retK slices_Equal.rs slices_Equal.ps slices_Equal.r, [(0, K1)]⟩ : Ks slices_Equal.R) (slices_Equal.Kb2 Kr2)))
  else (K1 []) : Option slices_Equal.R) := by kernel_rfl
theorem slices_Equal.l2_ok (n : Nat) (k : Nat) : ∀ (x0 : List DRecord) (x1 : List DRecord) (x12 : Int) (x13 : Int), loopEv [0, 1, 12, 13] (fun s K => ev (slices_Equal.cb2 n) s (⟨retK slices_Equal.rs slices_Equal.ps slices_Equal.r, [(0, (slices_Equal.K1 n))]⟩ : Ks slices_Equal.R) K) k [(0, some ⟨.slB .U false TRecord, x0⟩), (1, some ⟨.slB .U false TRecord, x1⟩), (12, some ⟨.int .i64, x12⟩), (13, some ⟨.int .i64, x13⟩)] = slices_Equal.l2 n k x0 x1 x12 x13 := by
  induction k with
  | zero => intros; rfl
  | succ k ih =>
    intro x0 x1 x12 x13
    exact (slices_Equal.wb2 n (fun st => loopEv [0, 1, 12, 13] (fun s K => ev (slices_Equal.cb2 n) s (⟨retK slices_Equal.rs slices_Equal.ps slices_Equal.r, [(0, (slices_Equal.K1 n))]⟩ : Ks slices_Equal.R) K) k st) x0 x1 x12 x13 (slices_Equal.K1 n) (slices_Equal.c3 n)).trans (by simp -implicitDefEqProofs only [slices_Equal.l2, slices_Equal.s3 n (fun st => loopEv [0, 1, 12, 13] (fun s K => ev (slices_Equal.cb2 n) s (⟨retK slices_Equal.rs slices_Equal.ps slices_Equal.r, [(0, (slices_Equal.K1 n))]⟩ : Ks slices_Equal.R) K) k st) (slices_Equal.l2 n k) ih, slices_Equal.q1_0 n] <;> kernel_rfl)
noncomputable def slices_Equal.d (n : Nat) (X1 Y2 : XC) : XC :=
  (.seq (.reg (.op (.mv 4 (.c ⟨.bool, (false : Bool)⟩)) none <| .nil)) <|
  (.seq (.seq (.reg (.op (.mv 6 (.t 0)) none <| .op (.len 7 (.t 6) false) none <| .op (.mv 8 (.t 1)) none <| .op (.len 9 (.t 8) false) none <| .op (.bin 10 .neq (.t 7) (.t 9)) none <| .nil)) <|
  (.cond (.t 10)
  (.seq (.reg (.op (.mv 4 (.c ⟨.bool, (false : Bool)⟩)) none <| .nil)) <|
  .ret)
  .skip)) <|
  (.seq (.aft (.seq (.reg (.op (.mv 11 (.t 0)) none <| .op (.len 12 (.t 11) false) none <| .op (.mv 13 (.c ⟨.int .i64, ((0 : Int) : Int)⟩)) none <| .nil)) <|
  (.block 0 (.pre [.keep [0, 1, 12, 13]] (.loop n [0, 1, 12, 13] Y2)))) [.keep []]) X1)))
noncomputable abbrev slices_Equal.c (n : Nat) : XC := slices_Equal.d n (slices_Equal.c1 n) (slices_Equal.cb2 n)
noncomputable def slices_Equal.f (n : Nat) (a0 : List DRecord) (a1 : List DRecord) : Option Bool :=
  bif (!decide ((a0.length : Int) = (a1.length : Int))) then (some false)
  else (slices_Equal.l2 n n a0 a1 (a0.length : Int) (0 : Int))
theorem slices_Equal.w (n : Nat) (a0 : List DRecord) (a1 : List DRecord) (X1 Y2 : XC) : evFn (slices_Equal.d n X1 Y2) slices_Equal.rs slices_Equal.ps slices_Equal.r (a0, a1, ()) =
  (bif (!decide ((a0.length : Int) = (a1.length : Int))) then (some false)
  else (loopEv [0, 1, 12, 13] (fun s K => ev Y2 s (⟨retK slices_Equal.rs slices_Equal.ps slices_Equal.r, [(0, (slices_Equal.H1 n X1))]⟩ : Ks slices_Equal.R) K) n [(0, some ⟨.slB .U false TRecord, a0⟩), (1, some ⟨.slB .U false TRecord, a1⟩), (12, some ⟨.int .i64, (a0.length : Int)⟩), (13, some ⟨.int .i64, (0 : Int)⟩)]) : Option slices_Equal.R) := by kernel_rfl
theorem slices_Equal.ok (n : Nat) (a0 : List DRecord) (a1 : List DRecord) : evFn (slices_Equal.c n) slices_Equal.rs slices_Equal.ps slices_Equal.r (a0, a1, ()) = slices_Equal.f n a0 a1 := (slices_Equal.w n a0 a1 (slices_Equal.c1 n) (slices_Equal.cb2 n)).trans (by simp -implicitDefEqProofs only [slices_Equal.f, slices_Equal.l2_ok n] <;> kernel_rfl)
noncomputable def slices_Equal.sp (n : Nat) : FSpec := { f := 28, ps := slices_Equal.ps, r := slices_Equal.r, run := fun x => slices_Equal.f n x.1 x.2.1 }
theorem slices_Equal.calls (n : Nat) : (slices_Equal.c n).calls = [] := by kernel_rfl
theorem slices_Equal.fits (n : Nat) : fnB tab hd Try.f28 (slices_Equal.c n) slices_Equal.rs (slices_Equal.sp n).ps (slices_Equal.sp n).r = true := by kernel_rfl
theorem slices_Equal.sound (n : Nat) : Sound Try.prog (slices_Equal.sp n) := by
  refine fnB_sound tabOk eqFacts mixed (fn := Try.f28) (c := slices_Equal.c n) (rs := slices_Equal.rs) (by kernel_rfl) ?_ (slices_Equal.fits n) ?_
  · rw [slices_Equal.calls]
    intro s hs; cases hs
  · rintro ⟨a0, a1, ⟨⟩⟩ y h
    exact (slices_Equal.ok n a0 a1).trans h
theorem slices_Equal.meets (n : Nat) : Meets Try.prog (slices_Equal.sp n) := (slices_Equal.sound n).meets
/-! backwater/cml.Same -/
abbrev cml_Same.ps : List (Ty × Bool) := [(.slB .U false TRecord, false), (.slB .U false TRecord, false)]
abbrev cml_Same.r : Ty := .bool
abbrev cml_Same.rs : List RV := [.t 4]
abbrev cml_Same.R : Type := (rtOf cml_Same.ps cml_Same.r).den
noncomputable def cml_Same.d (n : Nat) : XC :=
  (.seq (.reg (.op (.mv 4 (.c ⟨.bool, (false : Bool)⟩)) none <| .nil)) <|
  (.seq (.reg (.op (.mv 5 (.t 0)) none <| .op (.mv 6 (.t 1)) none <| .op (.call (some 7) (slices_Equal.sp n) [.v (.t 5), .v (.t 6)]) none <| .op (.mv 4 (.t 7)) none <| .nil)) <|
  .ret))
noncomputable abbrev cml_Same.c (n : Nat) : XC := cml_Same.d n
noncomputable def cml_Same.f (n : Nat) (a0 : List DRecord) (a1 : List DRecord) : Option Bool :=
  (slices_Equal.f n a0 a1).bind fun r1 => some r1
theorem cml_Same.ok (n : Nat) (a0 : List DRecord) (a1 : List DRecord) : evFn (cml_Same.c n) cml_Same.rs cml_Same.ps cml_Same.r (a0, a1, ()) = cml_Same.f n a0 a1 := by kernel_rfl
noncomputable def cml_Same.sp (n : Nat) : FSpec := { f := 12, ps := cml_Same.ps, r := cml_Same.r, run := fun x => cml_Same.f n x.1 x.2.1 }
theorem cml_Same.calls (n : Nat) : (cml_Same.c n).calls = [slices_Equal.sp n] := by kernel_rfl
theorem cml_Same.fits (n : Nat) : fnB tab hd Try.f12 (cml_Same.c n) cml_Same.rs (cml_Same.sp n).ps (cml_Same.sp n).r = true := by kernel_rfl
theorem cml_Same.sound (n : Nat) : Sound Try.prog (cml_Same.sp n) := by
  refine fnB_sound tabOk eqFacts mixed (fn := Try.f12) (c := cml_Same.c n) (rs := cml_Same.rs) (by kernel_rfl) ?_ (cml_Same.fits n) ?_
  · rw [cml_Same.calls]
    intro s hs
    simp only [List.mem_cons, List.not_mem_nil, or_false] at hs
    rcases hs with rfl
    · exact slices_Equal.meets n
  · rintro ⟨a0, a1, ⟨⟩⟩ y h
    exact (cml_Same.ok n a0 a1).trans h
theorem cml_Same.meets (n : Nat) : Meets Try.prog (cml_Same.sp n) := (cml_Same.sound n).meets
/-! backwater/cml.Clean -/
abbrev cml_Clean.ps : List (Ty × Bool) := [(.slB .U false TRecord, false)]
abbrev cml_Clean.r : Ty := .bool
abbrev cml_Clean.rs : List RV := [.t 2]
abbrev cml_Clean.R : Type := (rtOf cml_Clean.ps cml_Clean.r).den
noncomputable def cml_Clean.d (n : Nat) : XC :=
  (.seq (.reg (.op (.mv 2 (.c ⟨.bool, (false : Bool)⟩)) none <| .nil)) <|
  (.seq (.reg (.op (.mv 3 (.t 0)) none <| .op (.call (some 4) (cml_Optimise.sp n) [.v (.t 3)]) none <| .op (.mv 5 (.t 0)) none <| .op (.call (some 6) (cml_Same.sp n) [.v (.t 4), .v (.t 5)]) none <| .op (.mv 2 (.t 6)) none <| .nil)) <|
  .ret))
noncomputable abbrev cml_Clean.c (n : Nat) : XC := cml_Clean.d n
noncomputable def cml_Clean.f (n : Nat) (a0 : List DRecord) : Option Bool :=
  (cml_Optimise.f n a0).bind fun r1 => (cml_Same.f n r1 a0).bind fun r2 => some r2
theorem cml_Clean.ok (n : Nat) (a0 : List DRecord) : evFn (cml_Clean.c n) cml_Clean.rs cml_Clean.ps cml_Clean.r (a0, ()) = cml_Clean.f n a0 := by kernel_rfl
noncomputable def cml_Clean.sp (n : Nat) : FSpec := { f := 15, ps := cml_Clean.ps, r := cml_Clean.r, run := fun x => cml_Clean.f n x.1 }
theorem cml_Clean.calls (n : Nat) : (cml_Clean.c n).calls = [cml_Optimise.sp n, cml_Same.sp n] := by kernel_rfl
theorem cml_Clean.fits (n : Nat) : fnB tab hd Try.f15 (cml_Clean.c n) cml_Clean.rs (cml_Clean.sp n).ps (cml_Clean.sp n).r = true := by kernel_rfl
theorem cml_Clean.sound (n : Nat) : Sound Try.prog (cml_Clean.sp n) := by
  refine fnB_sound tabOk eqFacts mixed (fn := Try.f15) (c := cml_Clean.c n) (rs := cml_Clean.rs) (by kernel_rfl) ?_ (cml_Clean.fits n) ?_
  · rw [cml_Clean.calls]
    intro s hs
    simp only [List.mem_cons, List.not_mem_nil, or_false] at hs
    rcases hs with rfl | rfl
    · exact cml_Optimise.meets n
    · exact cml_Same.meets n
  · rintro ⟨a0, ⟨⟩⟩ y h
    exact (cml_Clean.ok n a0).trans h
theorem cml_Clean.meets (n : Nat) : Meets Try.prog (cml_Clean.sp n) := (cml_Clean.sound n).meets
/-! backwater/backwaterlaw08.live -/
abbrev law08_live.ps : List (Ty × Bool) := []
abbrev law08_live.r : Ty := .bool
abbrev law08_live.rs : List RV := [.t 0]
abbrev law08_live.R : Type := (rtOf law08_live.ps law08_live.r).den
noncomputable def law08_live.d (n : Nat) : XC :=
  (.seq (.reg (.op (.mv 0 (.c ⟨.bool, (false : Bool)⟩)) none <| .nil)) <|
  (.seq (.reg (.op (.build 4 ⟨TOp, (((0 : Int), (0 : Int), (0 : Int), ([] : List Int), (0 : Int), ([] : List Int), (0 : Int), ([] : List Int), ()) : DOp)⟩ [(0, (.c ⟨.int .u8, ((1 : Int) : Int)⟩), false), (1, (.c ⟨.int .u32, ((5 : Int) : Int)⟩), false), (2, (.c ⟨.int .u32, ((1 : Int) : Int)⟩), false), (3, (.c ⟨.str, (([97] : List Int) : List Int)⟩), false)]) none <| .op (.build 5 ⟨TRecord, ((((0 : Int), (0 : Int), (0 : Int), ([] : List Int), (0 : Int), ([] : List Int), (0 : Int), ([] : List Int), ()), (0 : Int), ()) : DRecord)⟩ [(0, (.t 4), false)]) none <| .op (.build 6 ⟨TOp, (((0 : Int), (0 : Int), (0 : Int), ([] : List Int), (0 : Int), ([] : List Int), (0 : Int), ([] : List Int), ()) : DOp)⟩ [(0, (.c ⟨.int .u8, ((8 : Int) : Int)⟩), false), (1, (.c ⟨.int .u32, ((5 : Int) : Int)⟩), false), (7, (.c ⟨.str, (([120] : List Int) : List Int)⟩), false)]) none <| .op (.build 7 ⟨TRecord, ((((0 : Int), (0 : Int), (0 : Int), ([] : List Int), (0 : Int), ([] : List Int), (0 : Int), ([] : List Int), ()), (0 : Int), ()) : DRecord)⟩ [(0, (.t 6), false)]) none <| .op (.build 8 ⟨TOp, (((0 : Int), (0 : Int), (0 : Int), ([] : List Int), (0 : Int), ([] : List Int), (0 : Int), ([] : List Int), ()) : DOp)⟩ [(0, (.c ⟨.int .u8, ((8 : Int) : Int)⟩), false), (1, (.c ⟨.int .u32, ((5 : Int) : Int)⟩), false), (7, (.c ⟨.str, (([121] : List Int) : List Int)⟩), false)]) none <| .op (.build 9 ⟨TRecord, ((((0 : Int), (0 : Int), (0 : Int), ([] : List Int), (0 : Int), ([] : List Int), (0 : Int), ([] : List Int), ()), (0 : Int), ()) : DRecord)⟩ [(0, (.t 8), false)]) none <| .op (.bsl 10 TRecord [(.t 5), (.t 7), (.t 9)]) none <| .op (.take 1 10) none <| .nil)) <|
  (.seq (.reg (.op (.bor 11 1) none <| .op (.call (some 12) (cml_Optimise.sp n) [.v (.t 11)]) none <| .op (.take 2 12) none <| .nil)) <|
  (.seq (.reg (.op (.bsl 13 TRecord []) none <| .op (.bor 14 1) none <| .op (.app 15 13 (.t 14) 88 9) none <| .op (.build 16 ⟨TOp, (((0 : Int), (0 : Int), (0 : Int), ([] : List Int), (0 : Int), ([] : List Int), (0 : Int), ([] : List Int), ()) : DOp)⟩ [(0, (.c ⟨.int .u8, ((5 : Int) : Int)⟩), false), (2, (.c ⟨.int .u32, ((1 : Int) : Int)⟩), false), (3, (.c ⟨.str, (([97] : List Int) : List Int)⟩), false)]) none <| .op (.build 17 ⟨TRecord, ((((0 : Int), (0 : Int), (0 : Int), ([] : List Int), (0 : Int), ([] : List Int), (0 : Int), ([] : List Int), ()), (0 : Int), ()) : DRecord)⟩ [(0, (.t 16), false)]) none <| .op (.bsl 18 TRecord [(.t 17)]) none <| .op (.app 19 15 (.t 18) 88 9) none <| .op (.call (some 20) (cml_Optimise.sp n) [.v (.t 19)]) none <| .op (.take 3 20) none <| .nil)) <|
  (.seq (.pre [.keep [1, 2, 3]] (.reg (.op (.bor 21 2) none <| .op (.len 22 (.t 21) false) none <| .op (.bin 23 .eql (.t 22) (.c ⟨.int .i64, ((2 : Int) : Int)⟩)) none <| .op (.mv 24 (.t 23)) none <| .grp 24 true (.op (.bor 25 2) (some ([2, 24, 25], [25])) <| .op (.idxA 26 (.t 25) (.c ⟨.int .i64, ((1 : Int) : Int)⟩) 9 0) (some ([2, 24, 25, 26], [26])) <| .op (.fa 27 26 0 0) (some ([2, 24, 26, 27], [27])) <| .op (.fa 28 27 7 7) (some ([2, 24, 27, 28], [28])) <| .op (.ld 29 28 1 false) (some ([2, 24, 28, 29], [29])) <| .op (.bin 30 .eql (.t 29) (.c ⟨.str, (([121] : List Int) : List Int)⟩)) (some ([24, 29, 30], [30])) <| .nil) 30 31 [25, 26, 27, 28, 29, 30] <| .op (.mv 32 (.t 31)) none <| .grp 32 true (.op (.bor 33 3) (some ([3, 32, 33], [33])) <| .op (.len 34 (.t 33) false) (some ([3, 32, 33, 34], [34])) <| .op (.bin 35 .eql (.t 34) (.c ⟨.int .i64, ((0 : Int) : Int)⟩)) (some ([32, 34, 35], [35])) <| .nil) 35 36 [33, 34, 35] <| .op (.mv 37 (.t 36)) none <| .grp 37 true (.op (.bor 38 2) (some ([2, 37, 38], [38])) <| .op (.call (some 39) (cml_Clean.sp n) [.v (.t 38)]) (some ([2, 37, 38, 39], [39])) <| .nil) 39 40 [38, 39] <| .op (.mv 41 (.t 40)) none <| .grp 41 true (.op (.bor 42 1) (some ([1, 41, 42], [42])) <| .op (.idxA 43 (.t 42) (.c ⟨.int .i64, ((0 : Int) : Int)⟩) 9 0) (some ([1, 41, 42, 43], [43])) <| .op (.ld 44 43 9 true) (some ([1, 41, 43, 44], [44])) <| .op (.call (some 45) (cml_Touches.sp n) [.v (.t 44), .v (.c ⟨.int .u32, ((1 : Int) : Int)⟩)]) (some ([41, 44, 45], [45])) <| .nil) 45 46 [42, 43, 44, 45] <| .op (.mv 0 (.t 46)) none <| .nil))) <|
  .ret)))))
noncomputable abbrev law08_live.c (n : Nat) : XC := law08_live.d n
noncomputable def law08_live.f (n : Nat)  : Option Bool :=
  (cml_Optimise.f n ([(((1 : Int), (5 : Int), (1 : Int), ([97] : List Int), (0 : Int), ([] : List Int), (0 : Int), ([] : List Int), ()), (0 : Int), ()), (((8 : Int), (5 : Int), (0 : Int), ([] : List Int), (0 : Int), ([] : List Int), (0 : Int), ([120] : List Int), ()), (0 : Int), ()), (((8 : Int), (5 : Int), (0 : Int), ([] : List Int), (0 : Int), ([] : List Int), (0 : Int), ([121] : List Int), ()), (0 : Int), ())] : List DRecord)).bind fun r1 => appK ([] : List DRecord).length ([(((1 : Int), (5 : Int), (1 : Int), ([97] : List Int), (0 : Int), ([] : List Int), (0 : Int), ([] : List Int), ()), (0 : Int), ()), (((8 : Int), (5 : Int), (0 : Int), ([] : List Int), (0 : Int), ([] : List Int), (0 : Int), ([120] : List Int), ()), (0 : Int), ()), (((8 : Int), (5 : Int), (0 : Int), ([] : List Int), (0 : Int), ([] : List Int), (0 : Int), ([121] : List Int), ()), (0 : Int), ())] : List DRecord).length 88 (appK (([] : List DRecord) ++ ([(((1 : Int), (5 : Int), (1 : Int), ([97] : List Int), (0 : Int), ([] : List Int), (0 : Int), ([] : List Int), ()), (0 : Int), ()), (((8 : Int), (5 : Int), (0 : Int), ([] : List Int), (0 : Int), ([] : List Int), (0 : Int), ([120] : List Int), ()), (0 : Int), ()), (((8 : Int), (5 : Int), (0 : Int), ([] : List Int), (0 : Int), ([] : List Int), (0 : Int), ([121] : List Int), ()), (0 : Int), ())] : List DRecord)).length ([(((5 : Int), (0 : Int), (1 : Int), ([97] : List Int), (0 : Int), ([] : List Int), (0 : Int), ([] : List Int), ()), (0 : Int), ())] : List DRecord).length 88 ((cml_Optimise.f n ((([] : List DRecord) ++ ([(((1 : Int), (5 : Int), (1 : Int), ([97] : List Int), (0 : Int), ([] : List Int), (0 : Int), ([] : List Int), ()), (0 : Int), ()), (((8 : Int), (5 : Int), (0 : Int), ([] : List Int), (0 : Int), ([] : List Int), (0 : Int), ([120] : List Int), ()), (0 : Int), ()), (((8 : Int), (5 : Int), (0 : Int), ([] : List Int), (0 : Int), ([] : List Int), (0 : Int), ([121] : List Int), ()), (0 : Int), ())] : List DRecord)) ++ ([(((5 : Int), (0 : Int), (1 : Int), ([97] : List Int), (0 : Int), ([] : List Int), (0 : Int), ([] : List Int), ()), (0 : Int), ())] : List DRecord))).bind fun r2 => (bif (decide ((r1.length : Int) = (2 : Int))) then (idxK r1 (1 : Int) fun e4 => some (decide (e4.1.2.2.2.2.2.2.2.1 = ([121] : List Int)))) else some false).bind fun g3 =>
  (bif g3 then (some (decide ((r2.length : Int) = (0 : Int)))) else some false).bind fun g5 =>
  (bif g5 then ((cml_Clean.f n r1).bind fun r7 => some r7) else some false).bind fun g6 =>
  (bif g6 then (idxK ([(((1 : Int), (5 : Int), (1 : Int), ([97] : List Int), (0 : Int), ([] : List Int), (0 : Int), ([] : List Int), ()), (0 : Int), ()), (((8 : Int), (5 : Int), (0 : Int), ([] : List Int), (0 : Int), ([] : List Int), (0 : Int), ([120] : List Int), ()), (0 : Int), ()), (((8 : Int), (5 : Int), (0 : Int), ([] : List Int), (0 : Int), ([] : List Int), (0 : Int), ([121] : List Int), ()), (0 : Int), ())] : List DRecord) (0 : Int) fun e9 => (cml_Touches.f n ((e9.1.1, e9.1.2.1, e9.1.2.2.1, e9.1.2.2.2.1, e9.1.2.2.2.2.1, e9.1.2.2.2.2.2.1, e9.1.2.2.2.2.2.2.1, e9.1.2.2.2.2.2.2.2.1, e9.1.2.2.2.2.2.2.2.2), e9.2.1, e9.2.2) (1 : Int)).bind fun r10 => some r10) else some false).bind fun g8 =>
  some g8))
theorem law08_live.ok (n : Nat)  : evFn (law08_live.c n) law08_live.rs law08_live.ps law08_live.r () = law08_live.f n  := by kernel_rfl
noncomputable def law08_live.sp (n : Nat) : FSpec := { f := 11, ps := law08_live.ps, r := law08_live.r, run := fun x => law08_live.f n  }
theorem law08_live.calls (n : Nat) : (law08_live.c n).calls = [cml_Optimise.sp n, cml_Optimise.sp n, cml_Clean.sp n, cml_Touches.sp n] := by kernel_rfl
theorem law08_live.fits (n : Nat) : fnB tab hd Try.f11 (law08_live.c n) law08_live.rs (law08_live.sp n).ps (law08_live.sp n).r = true := by kernel_rfl
theorem law08_live.sound (n : Nat) : Sound Try.prog (law08_live.sp n) := by
  refine fnB_sound tabOk eqFacts mixed (fn := Try.f11) (c := law08_live.c n) (rs := law08_live.rs) (by kernel_rfl) ?_ (law08_live.fits n) ?_
  · rw [law08_live.calls]
    intro s hs
    simp only [List.mem_cons, List.not_mem_nil, or_false] at hs
    rcases hs with rfl | rfl | rfl | rfl
    · exact cml_Optimise.meets n
    · exact cml_Optimise.meets n
    · exact cml_Clean.meets n
    · exact cml_Touches.meets n
  · rintro ⟨⟩ y h
    exact (law08_live.ok n ).trans h
theorem law08_live.meets (n : Nat) : Meets Try.prog (law08_live.sp n) := (law08_live.sound n).meets
end Go.Proofs.Ytggidaedacngbaa.S
