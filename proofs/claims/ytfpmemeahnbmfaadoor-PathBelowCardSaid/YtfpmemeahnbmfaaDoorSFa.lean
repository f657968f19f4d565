/- The functions of the seat: annotated code, shallow functions, and that each keeps its contract. Printed by pr.py. -/
import Derived.Test.YtfpmemeahnbmfaaDoorSTab
import Derived.Test.YtfpmemeahnbmfaaDoorSJn
namespace Go.Proofs.YtfpmemeahnbmfaaDoor.S
open Go Go.Proofs Go.Proofs.Bw
set_option maxRecDepth 100000
set_option linter.unusedVariables false
abbrev TboundsError : Ty := .pair (.int .i64) (.pair (.int .i64) (.pair .bool (.pair (.int .u8) .unit)))
abbrev DboundsError : Type := Int × Int × Bool × Int × Unit
abbrev TerrorAddressString : Ty := .pair .str (.pair (.int .u64) .unit)
abbrev DerrorAddressString : Type := (List Int) × Int × Unit
abbrev TacceptRange : Ty := .pair (.int .u8) (.pair (.int .u8) .unit)
abbrev DacceptRange : Type := Int × Int × Unit
/-! internal/stringslite.HasPrefix -/
abbrev internal_stringslite_HasPrefix.ps : List (Ty × Bool) := [(.str, false), (.str, false)]
abbrev internal_stringslite_HasPrefix.r : Ty := .bool
abbrev internal_stringslite_HasPrefix.rs : List RV := [.t 4]
abbrev internal_stringslite_HasPrefix.R : Type := (rtOf internal_stringslite_HasPrefix.ps internal_stringslite_HasPrefix.r).den
noncomputable def internal_stringslite_HasPrefix.d (n : Nat) : XC :=
  (.seq (.reg (.op (.mv 4 (.c ⟨.bool, (false : Bool)⟩)) none <| .nil)) <|
  (.seq (.reg (.op (.mv 5 (.t 0)) none <| .op (.len 6 (.t 5) true) none <| .op (.mv 7 (.t 1)) none <| .op (.len 8 (.t 7) true) none <| .op (.bin 9 .geq (.t 6) (.t 8)) none <| .op (.mv 10 (.t 9)) none <| .grp 10 true (.op (.mv 11 (.t 0)) (some ([0, 10, 11], [11])) <| .op (.mv 12 (.t 1)) (some ([1, 10, 12], [12])) <| .op (.len 13 (.t 12) true) (some ([10, 12, 13], [13])) <| .op (.slc 14 (.t 11) none (some (.t 13)) none 0) (some ([10, 11, 13, 14], [14])) <| .op (.mv 15 (.t 1)) (some ([1, 10, 15], [15])) <| .op (.bin 16 .eql (.t 14) (.t 15)) (some ([10, 14, 15, 16], [16])) <| .nil) 16 17 [11, 12, 13, 14, 15, 16] <| .op (.mv 4 (.t 17)) none <| .nil)) <|
  .ret))
noncomputable abbrev internal_stringslite_HasPrefix.c (n : Nat) : XC := internal_stringslite_HasPrefix.d n
noncomputable def internal_stringslite_HasPrefix.f (n : Nat) (a0 : List Int) (a1 : List Int) : Option Bool :=
  (bif (decide ((a1.length : Int) ≤ (a0.length : Int))) then (sliceK 0 (a1.length : Int) a0.length (some (decide ((cut a0 0 (a1.length : Int)) = a1)))) else some false).bind fun g1 =>
  some g1
theorem internal_stringslite_HasPrefix.ok (n : Nat) (a0 : List Int) (a1 : List Int) : evFn (internal_stringslite_HasPrefix.c n) internal_stringslite_HasPrefix.rs internal_stringslite_HasPrefix.ps internal_stringslite_HasPrefix.r (a0, a1, ()) = internal_stringslite_HasPrefix.f n a0 a1 := by kernel_rfl
noncomputable def internal_stringslite_HasPrefix.sp (n : Nat) : FSpec := { f := 32, ps := internal_stringslite_HasPrefix.ps, r := internal_stringslite_HasPrefix.r, run := fun x => internal_stringslite_HasPrefix.f n x.1 x.2.1 }
theorem internal_stringslite_HasPrefix.calls (n : Nat) : (internal_stringslite_HasPrefix.c n).calls = [] := by kernel_rfl
theorem internal_stringslite_HasPrefix.fits (n : Nat) : fnB tab hd Tryd.f32 (internal_stringslite_HasPrefix.c n) internal_stringslite_HasPrefix.rs (internal_stringslite_HasPrefix.sp n).ps (internal_stringslite_HasPrefix.sp n).r = true := by kernel_rfl
theorem internal_stringslite_HasPrefix.sound (n : Nat) : Sound Tryd.prog (internal_stringslite_HasPrefix.sp n) := by
  refine fnB_sound tabOk eqFacts mixed (fn := Tryd.f32) (c := internal_stringslite_HasPrefix.c n) (rs := internal_stringslite_HasPrefix.rs) (by kernel_rfl) ?_ (internal_stringslite_HasPrefix.fits n) ?_
  · rw [internal_stringslite_HasPrefix.calls]
    intro s hs; cases hs
  · rintro ⟨a0, a1, ⟨⟩⟩ y h
    exact (internal_stringslite_HasPrefix.ok n a0 a1).trans h
theorem internal_stringslite_HasPrefix.meets (n : Nat) : Meets Tryd.prog (internal_stringslite_HasPrefix.sp n) := (internal_stringslite_HasPrefix.sound n).meets
/-! internal/stringslite.CutPrefix -/
abbrev internal_stringslite_CutPrefix.ps : List (Ty × Bool) := [(.str, false), (.str, false)]
abbrev internal_stringslite_CutPrefix.r : Ty := .tup (.pair .str (.pair .bool .unit))
abbrev internal_stringslite_CutPrefix.rs : List RV := [.t 4, .t 5]
abbrev internal_stringslite_CutPrefix.R : Type := (rtOf internal_stringslite_CutPrefix.ps internal_stringslite_CutPrefix.r).den
noncomputable def internal_stringslite_CutPrefix.d (n : Nat) : XC :=
  (.seq (.reg (.op (.mv 4 (.c ⟨.str, (([] : List Int) : List Int)⟩)) none <| .op (.mv 5 (.c ⟨.bool, (false : Bool)⟩)) none <| .nil)) <|
  (.seq (.seq (.reg (.op (.mv 6 (.t 0)) none <| .op (.mv 7 (.t 1)) none <| .op (.call (some 8) (internal_stringslite_HasPrefix.sp n) [.v (.t 6), .v (.t 7)]) none <| .op (.un 9 .not (.t 8)) none <| .nil)) <|
  (.cond (.t 9)
  (.seq (.reg (.op (.mv 10 (.t 0)) none <| .op (.mv 4 (.t 10)) none <| .op (.mv 5 (.c ⟨.bool, (false : Bool)⟩)) none <| .nil)) <|
  .ret)
  .skip)) <|
  (.seq (.reg (.op (.mv 11 (.t 0)) none <| .op (.mv 12 (.t 1)) none <| .op (.len 13 (.t 12) true) none <| .op (.slc 14 (.t 11) (some (.t 13)) none none 0) none <| .op (.mv 4 (.t 14)) none <| .op (.mv 5 (.c ⟨.bool, (true : Bool)⟩)) none <| .nil)) <|
  .ret)))
noncomputable abbrev internal_stringslite_CutPrefix.c (n : Nat) : XC := internal_stringslite_CutPrefix.d n
noncomputable def internal_stringslite_CutPrefix.f (n : Nat) (a0 : List Int) (a1 : List Int) : Option ((List Int) × Bool × Unit) :=
  (internal_stringslite_HasPrefix.f n a0 a1).bind fun r1 => bif (!r1) then (some (a0, false, ()))
  else (sliceK (a1.length : Int) (a0.length : Int) a0.length (some ((cut a0 (a1.length : Int) (a0.length : Int)), true, ())))
theorem internal_stringslite_CutPrefix.ok (n : Nat) (a0 : List Int) (a1 : List Int) : evFn (internal_stringslite_CutPrefix.c n) internal_stringslite_CutPrefix.rs internal_stringslite_CutPrefix.ps internal_stringslite_CutPrefix.r (a0, a1, ()) = internal_stringslite_CutPrefix.f n a0 a1 := by kernel_rfl
noncomputable def internal_stringslite_CutPrefix.sp (n : Nat) : FSpec := { f := 28, ps := internal_stringslite_CutPrefix.ps, r := internal_stringslite_CutPrefix.r, run := fun x => internal_stringslite_CutPrefix.f n x.1 x.2.1 }
theorem internal_stringslite_CutPrefix.calls (n : Nat) : (internal_stringslite_CutPrefix.c n).calls = [internal_stringslite_HasPrefix.sp n] := by kernel_rfl
theorem internal_stringslite_CutPrefix.fits (n : Nat) : fnB tab hd Tryd.f28 (internal_stringslite_CutPrefix.c n) internal_stringslite_CutPrefix.rs (internal_stringslite_CutPrefix.sp n).ps (internal_stringslite_CutPrefix.sp n).r = true := by kernel_rfl
theorem internal_stringslite_CutPrefix.sound (n : Nat) : Sound Tryd.prog (internal_stringslite_CutPrefix.sp n) := by
  refine fnB_sound tabOk eqFacts mixed (fn := Tryd.f28) (c := internal_stringslite_CutPrefix.c n) (rs := internal_stringslite_CutPrefix.rs) (by kernel_rfl) ?_ (internal_stringslite_CutPrefix.fits n) ?_
  · rw [internal_stringslite_CutPrefix.calls]
    intro s hs
    simp only [List.mem_cons, List.not_mem_nil, or_false] at hs
    rcases hs with rfl
    · exact internal_stringslite_HasPrefix.meets n
  · rintro ⟨a0, a1, ⟨⟩⟩ y h
    exact (internal_stringslite_CutPrefix.ok n a0 a1).trans h
theorem internal_stringslite_CutPrefix.meets (n : Nat) : Meets Tryd.prog (internal_stringslite_CutPrefix.sp n) := (internal_stringslite_CutPrefix.sound n).meets
/-! strings.CutPrefix -/
abbrev strings_CutPrefix.ps : List (Ty × Bool) := [(.str, false), (.str, false)]
abbrev strings_CutPrefix.r : Ty := .tup (.pair .str (.pair .bool .unit))
abbrev strings_CutPrefix.rs : List RV := [.t 4, .t 5]
abbrev strings_CutPrefix.R : Type := (rtOf strings_CutPrefix.ps strings_CutPrefix.r).den
noncomputable def strings_CutPrefix.d (n : Nat) : XC :=
  (.seq (.reg (.op (.mv 4 (.c ⟨.str, (([] : List Int) : List Int)⟩)) none <| .op (.mv 5 (.c ⟨.bool, (false : Bool)⟩)) none <| .nil)) <|
  (.seq (.reg (.op (.mv 6 (.t 0)) none <| .op (.mv 7 (.t 1)) none <| .op (.call (some 8) (internal_stringslite_CutPrefix.sp n) [.v (.t 6), .v (.t 7)]) none <| .op (.ext 9 8 0) none <| .op (.ext 10 8 1) none <| .op (.mv 4 (.t 9)) none <| .op (.mv 5 (.t 10)) none <| .nil)) <|
  .ret))
noncomputable abbrev strings_CutPrefix.c (n : Nat) : XC := strings_CutPrefix.d n
noncomputable def strings_CutPrefix.f (n : Nat) (a0 : List Int) (a1 : List Int) : Option ((List Int) × Bool × Unit) :=
  (internal_stringslite_CutPrefix.f n a0 a1).bind fun r1 => some (r1.1, r1.2.1, ())
theorem strings_CutPrefix.ok (n : Nat) (a0 : List Int) (a1 : List Int) : evFn (strings_CutPrefix.c n) strings_CutPrefix.rs strings_CutPrefix.ps strings_CutPrefix.r (a0, a1, ()) = strings_CutPrefix.f n a0 a1 := by kernel_rfl
noncomputable def strings_CutPrefix.sp (n : Nat) : FSpec := { f := 21, ps := strings_CutPrefix.ps, r := strings_CutPrefix.r, run := fun x => strings_CutPrefix.f n x.1 x.2.1 }
theorem strings_CutPrefix.calls (n : Nat) : (strings_CutPrefix.c n).calls = [internal_stringslite_CutPrefix.sp n] := by kernel_rfl
theorem strings_CutPrefix.fits (n : Nat) : fnB tab hd Tryd.f21 (strings_CutPrefix.c n) strings_CutPrefix.rs (strings_CutPrefix.sp n).ps (strings_CutPrefix.sp n).r = true := by kernel_rfl
theorem strings_CutPrefix.sound (n : Nat) : Sound Tryd.prog (strings_CutPrefix.sp n) := by
  refine fnB_sound tabOk eqFacts mixed (fn := Tryd.f21) (c := strings_CutPrefix.c n) (rs := strings_CutPrefix.rs) (by kernel_rfl) ?_ (strings_CutPrefix.fits n) ?_
  · rw [strings_CutPrefix.calls]
    intro s hs
    simp only [List.mem_cons, List.not_mem_nil, or_false] at hs
    rcases hs with rfl
    · exact internal_stringslite_CutPrefix.meets n
  · rintro ⟨a0, a1, ⟨⟩⟩ y h
    exact (strings_CutPrefix.ok n a0 a1).trans h
theorem strings_CutPrefix.meets (n : Nat) : Meets Tryd.prog (strings_CutPrefix.sp n) := (strings_CutPrefix.sound n).meets
/-! internal/bytealg.IndexByteString: by the model -/
noncomputable def internal_bytealg_IndexByteString.f (n : Nat) (a0 : List Int) (a1 : Int) : Option Int := some (ibsV a0 a1)
noncomputable def internal_bytealg_IndexByteString.sp (n : Nat) : FSpec := ibsSp 49
theorem internal_bytealg_IndexByteString.meets (n : Nat) : Meets Tryd.prog (internal_bytealg_IndexByteString.sp n) := ibs_meets (fn := Tryd.f49) (by kernel_rfl) (by kernel_rfl) (by kernel_rfl) (by kernel_rfl) (by kernel_rfl)
/-! internal/stringslite.IndexByte -/
abbrev internal_stringslite_IndexByte.ps : List (Ty × Bool) := [(.str, false), (.int .u8, false)]
abbrev internal_stringslite_IndexByte.r : Ty := .int .i64
abbrev internal_stringslite_IndexByte.rs : List RV := [.t 4]
abbrev internal_stringslite_IndexByte.R : Type := (rtOf internal_stringslite_IndexByte.ps internal_stringslite_IndexByte.r).den
noncomputable def internal_stringslite_IndexByte.d (n : Nat) : XC :=
  (.seq (.reg (.op (.mv 4 (.c ⟨.int .i64, ((0 : Int) : Int)⟩)) none <| .nil)) <|
  (.seq (.reg (.op (.mv 5 (.t 0)) none <| .op (.mv 6 (.t 1)) none <| .op (.call (some 7) (internal_bytealg_IndexByteString.sp n) [.v (.t 5), .v (.t 6)]) none <| .op (.mv 4 (.t 7)) none <| .nil)) <|
  .ret))
noncomputable abbrev internal_stringslite_IndexByte.c (n : Nat) : XC := internal_stringslite_IndexByte.d n
noncomputable def internal_stringslite_IndexByte.f (n : Nat) (a0 : List Int) (a1 : Int) : Option Int :=
  (internal_bytealg_IndexByteString.f n a0 a1).bind fun r1 => some r1
theorem internal_stringslite_IndexByte.ok (n : Nat) (a0 : List Int) (a1 : Int) : evFn (internal_stringslite_IndexByte.c n) internal_stringslite_IndexByte.rs internal_stringslite_IndexByte.ps internal_stringslite_IndexByte.r (a0, a1, ()) = internal_stringslite_IndexByte.f n a0 a1 := by kernel_rfl
noncomputable def internal_stringslite_IndexByte.sp (n : Nat) : FSpec := { f := 40, ps := internal_stringslite_IndexByte.ps, r := internal_stringslite_IndexByte.r, run := fun x => internal_stringslite_IndexByte.f n x.1 x.2.1 }
theorem internal_stringslite_IndexByte.calls (n : Nat) : (internal_stringslite_IndexByte.c n).calls = [internal_bytealg_IndexByteString.sp n] := by kernel_rfl
theorem internal_stringslite_IndexByte.fits (n : Nat) : fnB tab hd Tryd.f40 (internal_stringslite_IndexByte.c n) internal_stringslite_IndexByte.rs (internal_stringslite_IndexByte.sp n).ps (internal_stringslite_IndexByte.sp n).r = true := by kernel_rfl
theorem internal_stringslite_IndexByte.sound (n : Nat) : Sound Tryd.prog (internal_stringslite_IndexByte.sp n) := by
  refine fnB_sound tabOk eqFacts mixed (fn := Tryd.f40) (c := internal_stringslite_IndexByte.c n) (rs := internal_stringslite_IndexByte.rs) (by kernel_rfl) ?_ (internal_stringslite_IndexByte.fits n) ?_
  · rw [internal_stringslite_IndexByte.calls]
    intro s hs
    simp only [List.mem_cons, List.not_mem_nil, or_false] at hs
    rcases hs with rfl
    · exact internal_bytealg_IndexByteString.meets n
  · rintro ⟨a0, a1, ⟨⟩⟩ y h
    exact (internal_stringslite_IndexByte.ok n a0 a1).trans h
theorem internal_stringslite_IndexByte.meets (n : Nat) : Meets Tryd.prog (internal_stringslite_IndexByte.sp n) := (internal_stringslite_IndexByte.sound n).meets
/-! internal/stringslite.Index -/
abbrev internal_stringslite_Index.ps : List (Ty × Bool) := [(.str, false), (.str, false)]
abbrev internal_stringslite_Index.r : Ty := .int .i64
abbrev internal_stringslite_Index.rs : List RV := [.t 4]
abbrev internal_stringslite_Index.R : Type := (rtOf internal_stringslite_Index.ps internal_stringslite_Index.r).den
noncomputable def internal_stringslite_Index.d (n : Nat) : XC :=
  (.seq (.reg (.op (.mv 4 (.c ⟨.int .i64, ((0 : Int) : Int)⟩)) none <| .nil)) <|
  (.seq (.reg (.op (.mv 14 (.t 1)) none <| .op (.len 15 (.t 14) true) none <| .op (.mv 5 (.t 15)) none <| .nil)) <|
  (.seq (.block 0 (.seq (.reg (.op (.mv 17 (.t 5)) none <| .op (.bin 18 .eql (.t 17) (.c ⟨.int .i64, ((0 : Int) : Int)⟩)) none <| .op (.mv 19 (.t 18)) none <| .grp 19 false (.op (.mv 20 (.t 1)) (some ([1, 19, 20], [20])) <| .op (.mv 21 (.t 0)) (some ([0, 19, 21], [21])) <| .op (.bin 22 .eql (.t 20) (.t 21)) (some ([19, 20, 21, 22], [22])) <| .nil) 22 23 [20, 21, 22] <| .op (.mv 16 (.t 23)) none <| .nil)) <|
  (.cond (.t 16)
  (.seq (.pre [.keep []] (.reg (.op (.mv 4 (.c ⟨.int .i64, ((0 : Int) : Int)⟩)) none <| .nil))) <|
  .ret)
  (.seq (.reg (.op (.mv 25 (.t 5)) none <| .op (.bin 26 .eql (.t 25) (.c ⟨.int .i64, ((1 : Int) : Int)⟩)) none <| .op (.mv 24 (.t 26)) none <| .nil)) <|
  (.cond (.t 24)
  (.seq (.pre [.keep [0, 1]] (.reg (.op (.mv 27 (.t 0)) none <| .op (.mv 28 (.t 1)) none <| .op (.idx 29 (.t 28) (.c ⟨.int .i64, ((0 : Int) : Int)⟩) 1 false 0) none <| .op (.call (some 30) (internal_stringslite_IndexByte.sp n) [.v (.t 27), .v (.t 29)]) none <| .op (.mv 4 (.t 30)) none <| .nil))) <|
  .ret)
  (.seq (.pre [.keep [0, 1, 5]] (.reg (.op (.mv 32 (.t 5)) none <| .op (.mv 33 (.t 0)) none <| .op (.len 34 (.t 33) true) none <| .op (.bin 35 .geq (.t 32) (.t 34)) none <| .op (.mv 31 (.t 35)) none <| .nil))) <|
  (.cond (.t 31)
  (.seq (.reg (.op (.mv 4 (.c ⟨.int .i64, ((-1 : Int) : Int)⟩)) none <| .nil)) <|
  .ret)
  .dead))))))) <|
  .dead)))
noncomputable abbrev internal_stringslite_Index.c (n : Nat) : XC := internal_stringslite_Index.d n
noncomputable def internal_stringslite_Index.f (n : Nat) (a0 : List Int) (a1 : List Int) : Option Int :=
  (bif (decide ((a1.length : Int) = (0 : Int))) then some true else (some (decide (a1 = a0)))).bind fun g1 =>
  bif g1 then (some (0 : Int))
  else (bif (decide ((a1.length : Int) = (1 : Int))) then (idxK a1 (0 : Int) fun e2 => (internal_stringslite_IndexByte.f n a0 e2).bind fun r3 => some r3)
  else (bif (decide ((a0.length : Int) ≤ (a1.length : Int))) then (some (-1 : Int))
  else (none)))
theorem internal_stringslite_Index.ok (n : Nat) (a0 : List Int) (a1 : List Int) : evFn (internal_stringslite_Index.c n) internal_stringslite_Index.rs internal_stringslite_Index.ps internal_stringslite_Index.r (a0, a1, ()) = internal_stringslite_Index.f n a0 a1 := by kernel_rfl
noncomputable def internal_stringslite_Index.sp (n : Nat) : FSpec := { f := 33, ps := internal_stringslite_Index.ps, r := internal_stringslite_Index.r, run := fun x => internal_stringslite_Index.f n x.1 x.2.1 }
theorem internal_stringslite_Index.calls (n : Nat) : (internal_stringslite_Index.c n).calls = [internal_stringslite_IndexByte.sp n] := by kernel_rfl
theorem internal_stringslite_Index.fits (n : Nat) : fnB tab hd Tryd.f33 (internal_stringslite_Index.c n) internal_stringslite_Index.rs (internal_stringslite_Index.sp n).ps (internal_stringslite_Index.sp n).r = true := by kernel_rfl
theorem internal_stringslite_Index.sound (n : Nat) : Sound Tryd.prog (internal_stringslite_Index.sp n) := by
  refine fnB_sound tabOk eqFacts mixed (fn := Tryd.f33) (c := internal_stringslite_Index.c n) (rs := internal_stringslite_Index.rs) (by kernel_rfl) ?_ (internal_stringslite_Index.fits n) ?_
  · rw [internal_stringslite_Index.calls]
    intro s hs
    simp only [List.mem_cons, List.not_mem_nil, or_false] at hs
    rcases hs with rfl
    · exact internal_stringslite_IndexByte.meets n
  · rintro ⟨a0, a1, ⟨⟩⟩ y h
    exact (internal_stringslite_Index.ok n a0 a1).trans h
theorem internal_stringslite_Index.meets (n : Nat) : Meets Tryd.prog (internal_stringslite_Index.sp n) := (internal_stringslite_Index.sound n).meets
/-! internal/stringslite.Cut -/
abbrev internal_stringslite_Cut.ps : List (Ty × Bool) := [(.str, false), (.str, false)]
abbrev internal_stringslite_Cut.r : Ty := .tup (.pair .str (.pair .str (.pair .bool .unit)))
abbrev internal_stringslite_Cut.rs : List RV := [.t 4, .t 5, .t 6]
abbrev internal_stringslite_Cut.R : Type := (rtOf internal_stringslite_Cut.ps internal_stringslite_Cut.r).den
noncomputable def internal_stringslite_Cut.d (n : Nat) : XC :=
  (.seq (.reg (.op (.mv 4 (.c ⟨.str, (([] : List Int) : List Int)⟩)) none <| .op (.mv 5 (.c ⟨.str, (([] : List Int) : List Int)⟩)) none <| .op (.mv 6 (.c ⟨.bool, (false : Bool)⟩)) none <| .nil)) <|
  (.seq (.seq (.reg (.op (.mv 8 (.t 0)) none <| .op (.mv 9 (.t 1)) none <| .op (.call (some 10) (internal_stringslite_Index.sp n) [.v (.t 8), .v (.t 9)]) none <| .op (.mv 7 (.t 10)) none <| .nil)) <|
  (.seq (.reg (.op (.mv 11 (.t 7)) none <| .op (.bin 12 .geq (.t 11) (.c ⟨.int .i64, ((0 : Int) : Int)⟩)) none <| .nil)) <|
  (.cond (.t 12)
  (.seq (.regD (.op (.mv 13 (.t 0)) (some ([0, 13], [13])) <| .op (.mv 14 (.t 7)) (some ([7, 14], [14])) <| .op (.slc 15 (.t 13) none (some (.t 14)) none 0) (some ([13, 14, 15], [15])) <| .op (.mv 16 (.t 0)) (some ([0, 16], [16])) <| .op (.mv 17 (.t 7)) (some ([7, 17], [17])) <| .op (.mv 18 (.t 1)) (some ([1, 18], [18])) <| .op (.len 19 (.t 18) true) (some ([18, 19], [19])) <| .op (.bin 20 .add (.t 17) (.t 19)) (some ([17, 19, 20], [20])) <| .op (.slc 21 (.t 16) (some (.t 20)) none none 0) (some ([16, 20, 21], [21])) <| .op (.mv 4 (.t 15)) (some ([4, 15], [4])) <| .op (.mv 5 (.t 21)) (some ([5, 21], [5])) <| .op (.mv 6 (.c ⟨.bool, (true : Bool)⟩)) (some ([6], [6])) <| .nil)) <|
  .ret)
  .skip))) <|
  (.seq (.reg (.op (.mv 22 (.t 0)) none <| .op (.mv 4 (.t 22)) none <| .op (.mv 5 (.c ⟨.str, (([] : List Int) : List Int)⟩)) none <| .op (.mv 6 (.c ⟨.bool, (false : Bool)⟩)) none <| .nil)) <|
  .ret)))
noncomputable abbrev internal_stringslite_Cut.c (n : Nat) : XC := internal_stringslite_Cut.d n
noncomputable def internal_stringslite_Cut.f (n : Nat) (a0 : List Int) (a1 : List Int) : Option ((List Int) × (List Int) × Bool × Unit) :=
  (internal_stringslite_Index.f n a0 a1).bind fun r1 => bif (decide ((0 : Int) ≤ r1)) then (sliceK 0 r1 a0.length (sliceK (IntKind.i64.wrap (r1 + (a1.length : Int))) (a0.length : Int) a0.length (some ((cut a0 0 r1), (cut a0 (IntKind.i64.wrap (r1 + (a1.length : Int))) (a0.length : Int)), true, ()))))
  else (some (a0, ([] : List Int), false, ()))
theorem internal_stringslite_Cut.ok (n : Nat) (a0 : List Int) (a1 : List Int) : evFn (internal_stringslite_Cut.c n) internal_stringslite_Cut.rs internal_stringslite_Cut.ps internal_stringslite_Cut.r (a0, a1, ()) = internal_stringslite_Cut.f n a0 a1 := by kernel_rfl
noncomputable def internal_stringslite_Cut.sp (n : Nat) : FSpec := { f := 29, ps := internal_stringslite_Cut.ps, r := internal_stringslite_Cut.r, run := fun x => internal_stringslite_Cut.f n x.1 x.2.1 }
theorem internal_stringslite_Cut.calls (n : Nat) : (internal_stringslite_Cut.c n).calls = [internal_stringslite_Index.sp n] := by kernel_rfl
theorem internal_stringslite_Cut.fits (n : Nat) : fnB tab hd Tryd.f29 (internal_stringslite_Cut.c n) internal_stringslite_Cut.rs (internal_stringslite_Cut.sp n).ps (internal_stringslite_Cut.sp n).r = true := by kernel_rfl
theorem internal_stringslite_Cut.sound (n : Nat) : Sound Tryd.prog (internal_stringslite_Cut.sp n) := by
  refine fnB_sound tabOk eqFacts mixed (fn := Tryd.f29) (c := internal_stringslite_Cut.c n) (rs := internal_stringslite_Cut.rs) (by kernel_rfl) ?_ (internal_stringslite_Cut.fits n) ?_
  · rw [internal_stringslite_Cut.calls]
    intro s hs
    simp only [List.mem_cons, List.not_mem_nil, or_false] at hs
    rcases hs with rfl
    · exact internal_stringslite_Index.meets n
  · rintro ⟨a0, a1, ⟨⟩⟩ y h
    exact (internal_stringslite_Cut.ok n a0 a1).trans h
theorem internal_stringslite_Cut.meets (n : Nat) : Meets Tryd.prog (internal_stringslite_Cut.sp n) := (internal_stringslite_Cut.sound n).meets
/-! strings.Cut -/
abbrev strings_Cut.ps : List (Ty × Bool) := [(.str, false), (.str, false)]
abbrev strings_Cut.r : Ty := .tup (.pair .str (.pair .str (.pair .bool .unit)))
abbrev strings_Cut.rs : List RV := [.t 4, .t 5, .t 6]
abbrev strings_Cut.R : Type := (rtOf strings_Cut.ps strings_Cut.r).den
noncomputable def strings_Cut.d (n : Nat) : XC :=
  (.seq (.reg (.op (.mv 4 (.c ⟨.str, (([] : List Int) : List Int)⟩)) none <| .op (.mv 5 (.c ⟨.str, (([] : List Int) : List Int)⟩)) none <| .op (.mv 6 (.c ⟨.bool, (false : Bool)⟩)) none <| .nil)) <|
  (.seq (.reg (.op (.mv 7 (.t 0)) none <| .op (.mv 8 (.t 1)) none <| .op (.call (some 9) (internal_stringslite_Cut.sp n) [.v (.t 7), .v (.t 8)]) none <| .op (.ext 10 9 0) none <| .op (.ext 11 9 1) none <| .op (.ext 12 9 2) none <| .op (.mv 4 (.t 10)) none <| .op (.mv 5 (.t 11)) none <| .op (.mv 6 (.t 12)) none <| .nil)) <|
  .ret))
noncomputable abbrev strings_Cut.c (n : Nat) : XC := strings_Cut.d n
noncomputable def strings_Cut.f (n : Nat) (a0 : List Int) (a1 : List Int) : Option ((List Int) × (List Int) × Bool × Unit) :=
  (internal_stringslite_Cut.f n a0 a1).bind fun r1 => some (r1.1, r1.2.1, r1.2.2.1, ())
theorem strings_Cut.ok (n : Nat) (a0 : List Int) (a1 : List Int) : evFn (strings_Cut.c n) strings_Cut.rs strings_Cut.ps strings_Cut.r (a0, a1, ()) = strings_Cut.f n a0 a1 := by kernel_rfl
noncomputable def strings_Cut.sp (n : Nat) : FSpec := { f := 22, ps := strings_Cut.ps, r := strings_Cut.r, run := fun x => strings_Cut.f n x.1 x.2.1 }
theorem strings_Cut.calls (n : Nat) : (strings_Cut.c n).calls = [internal_stringslite_Cut.sp n] := by kernel_rfl
theorem strings_Cut.fits (n : Nat) : fnB tab hd Tryd.f22 (strings_Cut.c n) strings_Cut.rs (strings_Cut.sp n).ps (strings_Cut.sp n).r = true := by kernel_rfl
theorem strings_Cut.sound (n : Nat) : Sound Tryd.prog (strings_Cut.sp n) := by
  refine fnB_sound tabOk eqFacts mixed (fn := Tryd.f22) (c := strings_Cut.c n) (rs := strings_Cut.rs) (by kernel_rfl) ?_ (strings_Cut.fits n) ?_
  · rw [strings_Cut.calls]
    intro s hs
    simp only [List.mem_cons, List.not_mem_nil, or_false] at hs
    rcases hs with rfl
    · exact internal_stringslite_Cut.meets n
  · rintro ⟨a0, a1, ⟨⟩⟩ y h
    exact (strings_Cut.ok n a0 a1).trans h
theorem strings_Cut.meets (n : Nat) : Meets Tryd.prog (strings_Cut.sp n) := (strings_Cut.sound n).meets
/-! backwater/path.Name -/
abbrev path_Name.ps : List (Ty × Bool) := [(.str, false)]
abbrev path_Name.r : Ty := .bool
abbrev path_Name.rs : List RV := [.t 2]
abbrev path_Name.R : Type := (rtOf path_Name.ps path_Name.r).den
noncomputable def path_Name.d1 (n : Nat) : XC :=
  (.seq (.reg (.op (.mv 2 (.c ⟨.bool, (true : Bool)⟩)) none <| .nil)) <|
  .ret)
noncomputable abbrev path_Name.c1 (n : Nat) : XC := path_Name.d1 n
noncomputable def path_Name.j1 (n : Nat)  : Option Bool :=
  some true
theorem path_Name.s1 (n : Nat)  : ev (path_Name.c1 n) [] (⟨retK path_Name.rs path_Name.ps path_Name.r, []⟩ : Ks path_Name.R) (retK path_Name.rs path_Name.ps path_Name.r) = path_Name.j1 n  := by kernel_rfl
noncomputable def path_Name.H1 (n : Nat) (X : XC) : St → Option path_Name.R := fun st => ghK [.keep []] st fun st => ev X st (⟨retK path_Name.rs path_Name.ps path_Name.r, []⟩ : Ks path_Name.R) (retK path_Name.rs path_Name.ps path_Name.r)
noncomputable abbrev path_Name.K1 (n : Nat) : St → Option path_Name.R := path_Name.H1 n (path_Name.c1 n)
noncomputable def path_Name.Kb2 (Kr2 : St → Option path_Name.R) : St → Option path_Name.R := fun st => ghK [.keep [23]] st Kr2
noncomputable def path_Name.db2 (n : Nat) : XC :=
  (.aft (.seq (.reg (.op (.nxt 24 23) none <| .op (.ext 25 24 0) none <| .nil)) <|
  (.seq (.cond (.t 25)
  .skip
  (.pre [.keep []] (.exit 0))) <|
  (.block 1 (.seq (.reg (.op (.ext 26 24 2) none <| .op (.mv 4 (.t 26)) none <| .nil)) <|
  (.seq (.reg (.op (.mv 27 (.t 4)) none <| .op (.bin 28 .or (.t 27) (.c ⟨.int .i32, ((32 : Int) : Int)⟩)) none <| .op (.mv 5 (.t 28)) none <| .nil)) <|
  (.seq (.reg (.op (.mv 29 (.t 4)) none <| .op (.mv 30 (.t 5)) none <| .op (.bin 31 .eql (.t 29) (.t 30)) none <| .op (.mv 32 (.t 31)) none <| .grp 32 true (.op (.mv 33 (.t 4)) (some ([4, 32, 33], [33])) <| .op (.bin 34 .geq (.t 33) (.c ⟨.int .i32, ((97 : Int) : Int)⟩)) (some ([32, 33, 34], [34])) <| .nil) 34 35 [33, 34] <| .op (.mv 36 (.t 35)) none <| .grp 36 true (.op (.mv 37 (.t 4)) (some ([4, 36, 37], [37])) <| .op (.bin 38 .leq (.t 37) (.c ⟨.int .i32, ((122 : Int) : Int)⟩)) (some ([36, 37, 38], [38])) <| .nil) 38 39 [37, 38] <| .op (.mv 6 (.t 39)) none <| .nil)) <|
  (.seq (.pre [.keep [4, 6, 23]] (.reg (.op (.mv 40 (.t 6)) none <| .op (.un 41 .not (.t 40)) none <| .op (.mv 42 (.t 41)) none <| .grp 42 true (.op (.mv 43 (.t 4)) (some ([4, 42, 43], [43])) <| .op (.bin 44 .lss (.t 43) (.c ⟨.int .i32, ((48 : Int) : Int)⟩)) (some ([42, 43, 44], [44])) <| .op (.mv 45 (.t 44)) (some ([42, 44, 45], [45])) <| .grp 45 false (.op (.mv 46 (.t 4)) (some ([4, 45, 46], [46])) <| .op (.bin 47 .gtr (.t 46) (.c ⟨.int .i32, ((57 : Int) : Int)⟩)) (some ([45, 46, 47], [47])) <| .nil) 47 48 [46, 47] <| .nil) 48 49 [43, 44, 45, 46, 47, 48] <| .op (.mv 50 (.t 49)) none <| .grp 50 true (.op (.mv 51 (.t 4)) (some ([4, 50, 51], [51])) <| .op (.bin 52 .neq (.t 51) (.c ⟨.int .i32, ((46 : Int) : Int)⟩)) (some ([50, 51, 52], [52])) <| .nil) 52 53 [51, 52] <| .op (.mv 54 (.t 53)) none <| .grp 54 true (.op (.mv 55 (.t 4)) (some ([4, 54, 55], [55])) <| .op (.bin 56 .neq (.t 55) (.c ⟨.int .i32, ((45 : Int) : Int)⟩)) (some ([54, 55, 56], [56])) <| .nil) 56 57 [55, 56] <| .op (.mv 58 (.t 57)) none <| .grp 58 true (.op (.mv 59 (.t 4)) (some ([4, 58, 59], [59])) <| .op (.bin 60 .neq (.t 59) (.c ⟨.int .i32, ((95 : Int) : Int)⟩)) (some ([58, 59, 60], [60])) <| .nil) 60 61 [59, 60] <| .nil))) <|
  (.cond (.t 61)
  (.seq (.pre [.keep []] (.reg (.op (.mv 2 (.c ⟨.bool, (false : Bool)⟩)) none <| .nil))) <|
  .ret)
  .skip)))))))) [.keep [23]])
noncomputable abbrev path_Name.cb2 (n : Nat) : XC := path_Name.db2 n
theorem path_Name.q1_0_r (n : Nat) (X : XC)  : path_Name.H1 n X [] = (ev X [] (⟨retK path_Name.rs path_Name.ps path_Name.r, []⟩ : Ks path_Name.R) (retK path_Name.rs path_Name.ps path_Name.r) : Option path_Name.R) := by kernel_rfl
theorem path_Name.q1_0 (n : Nat)  : path_Name.K1 n [] = path_Name.j1 n  := (path_Name.q1_0_r n (path_Name.c1 n) ).trans (path_Name.s1 n )
noncomputable def path_Name.l2 (n : Nat) : Nat → (List Int × Int) → Option Bool
  | 0, _ => none
  | k + 1, x23 =>
  bif decide (x23.2 < (x23.1.length : Int)) then ((bif (decide ((decL x23.1 x23.2).1 = (ior IntKind.i32 (decL x23.1 x23.2).1 (32 : Int)))) then (some (decide ((97 : Int) ≤ (decL x23.1 x23.2).1))) else some false).bind fun g1 =>
  (bif g1 then (some (decide ((decL x23.1 x23.2).1 ≤ (122 : Int)))) else some false).bind fun g2 =>
  (bif (!g2) then ((bif (decide ((decL x23.1 x23.2).1 < (48 : Int))) then some true else (some (decide ((57 : Int) < (decL x23.1 x23.2).1)))).bind fun g4 =>
  some g4) else some false).bind fun g3 =>
  (bif g3 then (some (!decide ((decL x23.1 x23.2).1 = (46 : Int)))) else some false).bind fun g5 =>
  (bif g5 then (some (!decide ((decL x23.1 x23.2).1 = (45 : Int)))) else some false).bind fun g6 =>
  (bif g6 then (some (!decide ((decL x23.1 x23.2).1 = (95 : Int)))) else some false).bind fun g7 =>
  bif g7 then (some false)
  else (path_Name.l2 n k (x23.1, (x23.2 + (decL x23.1 x23.2).2))))
  else (path_Name.j1 n )
theorem path_Name.wb2 (n : Nat) (Kr2 : St → Option path_Name.R) (x23 : List Int × Int) (K1 : St → Option path_Name.R) : ev (path_Name.db2 n) (keepSt [(23, some ⟨.siter, x23⟩)] [23]) (⟨retK path_Name.rs path_Name.ps path_Name.r, [(0, K1)]⟩ : Ks path_Name.R) Kr2 =
  (bif decide (x23.2 < (x23.1.length : Int)) then ((bif (decide ((decL x23.1 x23.2).1 = (ior IntKind.i32 (decL x23.1 x23.2).1 (32 : Int)))) then (some (decide ((97 : Int) ≤ (decL x23.1 x23.2).1))) else some false).bind fun g1 =>
  (bif g1 then (some (decide ((decL x23.1 x23.2).1 ≤ (122 : Int)))) else some false).bind fun g2 =>
  (bif (!g2) then ((bif (decide ((decL x23.1 x23.2).1 < (48 : Int))) then some true else (some (decide ((57 : Int) < (decL x23.1 x23.2).1)))).bind fun g4 =>
  some g4) else some false).bind fun g3 =>
  (bif g3 then (some (!decide ((decL x23.1 x23.2).1 = (46 : Int)))) else some false).bind fun g5 =>
  (bif g5 then (some (!decide ((decL x23.1 x23.2).1 = (45 : Int)))) else some false).bind fun g6 =>
  (bif g6 then (some (!decide ((decL x23.1 x23.2).1 = (95 : Int)))) else some false).bind fun g7 =>
  bif g7 then (some false)
  else (Kr2 [(23, some ⟨.siter, ((x23.1, (x23.2 + (decL x23.1 x23.2).2)) : List Int × Int)⟩)]))
  else (K1 []) : Option path_Name.R) := by kernel_rfl
theorem path_Name.l2_ok (n : Nat) (k : Nat) : ∀ (x23 : List Int × Int), loopEv [23] (fun s K => ev (path_Name.cb2 n) s (⟨retK path_Name.rs path_Name.ps path_Name.r, [(0, (path_Name.K1 n))]⟩ : Ks path_Name.R) K) k [(23, some ⟨.siter, x23⟩)] = path_Name.l2 n k x23 := by
  induction k with
  | zero => intros; rfl
  | succ k ih =>
    intro x23
    exact (path_Name.wb2 n (fun st => loopEv [23] (fun s K => ev (path_Name.cb2 n) s (⟨retK path_Name.rs path_Name.ps path_Name.r, [(0, (path_Name.K1 n))]⟩ : Ks path_Name.R) K) k st) x23 (path_Name.K1 n)).trans (by simp only [path_Name.l2, ih, path_Name.q1_0 n] <;> kernel_rfl)
noncomputable def path_Name.d (n : Nat) (X1 Y2 : XC) : XC :=
  (.seq (.reg (.op (.mv 2 (.c ⟨.bool, (false : Bool)⟩)) none <| .nil)) <|
  (.seq (.seq (.reg (.op (.mv 7 (.t 0)) none <| .op (.bin 8 .eql (.t 7) (.c ⟨.str, (([] : List Int) : List Int)⟩)) none <| .op (.mv 9 (.t 8)) none <| .grp 9 false (.op (.mv 10 (.t 0)) (some ([0, 9, 10], [10])) <| .op (.len 11 (.t 10) true) (some ([9, 10, 11], [11])) <| .op (.bin 12 .gtr (.t 11) (.c ⟨.int .i64, ((12 : Int) : Int)⟩)) (some ([9, 11, 12], [12])) <| .nil) 12 13 [10, 11, 12] <| .op (.mv 14 (.t 13)) none <| .grp 14 false (.op (.mv 15 (.t 0)) (some ([0, 14, 15], [15])) <| .op (.bin 16 .eql (.t 15) (.c ⟨.str, (([46] : List Int) : List Int)⟩)) (some ([14, 15, 16], [16])) <| .nil) 16 17 [15, 16] <| .op (.mv 18 (.t 17)) none <| .grp 18 false (.op (.mv 19 (.t 0)) (some ([0, 18, 19], [19])) <| .op (.bin 20 .eql (.t 19) (.c ⟨.str, (([46, 46] : List Int) : List Int)⟩)) (some ([18, 19, 20], [20])) <| .nil) 20 21 [19, 20] <| .nil)) <|
  (.cond (.t 21)
  (.seq (.reg (.op (.mv 2 (.c ⟨.bool, (false : Bool)⟩)) none <| .nil)) <|
  .ret)
  .skip)) <|
  (.seq (.aft (.seq (.reg (.op (.mv 22 (.t 0)) none <| .op (.rng 23 (.t 22)) none <| .nil)) <|
  (.block 0 (.pre [.keep [23]] (.loop n [23] Y2)))) [.keep []]) X1)))
noncomputable abbrev path_Name.c (n : Nat) : XC := path_Name.d n (path_Name.c1 n) (path_Name.cb2 n)
noncomputable def path_Name.f (n : Nat) (a0 : List Int) : Option Bool :=
  (bif (decide (a0 = ([] : List Int))) then some true else (some (decide ((12 : Int) < (a0.length : Int))))).bind fun g1 =>
  (bif g1 then some true else (some (decide (a0 = ([46] : List Int))))).bind fun g2 =>
  (bif g2 then some true else (some (decide (a0 = ([46, 46] : List Int))))).bind fun g3 =>
  bif g3 then (some false)
  else (path_Name.l2 n n (a0, (0 : Int)))
theorem path_Name.w (n : Nat) (a0 : List Int) (X1 Y2 : XC) : evFn (path_Name.d n X1 Y2) path_Name.rs path_Name.ps path_Name.r (a0, ()) =
  ((bif (decide (a0 = ([] : List Int))) then some true else (some (decide ((12 : Int) < (a0.length : Int))))).bind fun g1 =>
  (bif g1 then some true else (some (decide (a0 = ([46] : List Int))))).bind fun g2 =>
  (bif g2 then some true else (some (decide (a0 = ([46, 46] : List Int))))).bind fun g3 =>
  bif g3 then (some false)
  else (loopEv [23] (fun s K => ev Y2 s (⟨retK path_Name.rs path_Name.ps path_Name.r, [(0, (path_Name.H1 n X1))]⟩ : Ks path_Name.R) K) n [(23, some ⟨.siter, ((a0, (0 : Int)) : List Int × Int)⟩)]) : Option path_Name.R) := by kernel_rfl
theorem path_Name.ok (n : Nat) (a0 : List Int) : evFn (path_Name.c n) path_Name.rs path_Name.ps path_Name.r (a0, ()) = path_Name.f n a0 := (path_Name.w n a0 (path_Name.c1 n) (path_Name.cb2 n)).trans (by simp only [path_Name.f, path_Name.l2_ok n] <;> kernel_rfl)
noncomputable def path_Name.sp (n : Nat) : FSpec := { f := 10, ps := path_Name.ps, r := path_Name.r, run := fun x => path_Name.f n x.1 }
theorem path_Name.calls (n : Nat) : (path_Name.c n).calls = [] := by kernel_rfl
theorem path_Name.fits (n : Nat) : fnB tab hd Tryd.f10 (path_Name.c n) path_Name.rs (path_Name.sp n).ps (path_Name.sp n).r = true := by kernel_rfl
theorem path_Name.sound (n : Nat) : Sound Tryd.prog (path_Name.sp n) := by
  refine fnB_sound tabOk eqFacts mixed (fn := Tryd.f10) (c := path_Name.c n) (rs := path_Name.rs) (by kernel_rfl) ?_ (path_Name.fits n) ?_
  · rw [path_Name.calls]
    intro s hs; cases hs
  · rintro ⟨a0, ⟨⟩⟩ y h
    exact (path_Name.ok n a0).trans h
theorem path_Name.meets (n : Nat) : Meets Tryd.prog (path_Name.sp n) := (path_Name.sound n).meets
/-! backwater/path.Split -/
abbrev path_Split.ps : List (Ty × Bool) := [(.str, false)]
abbrev path_Split.r : Ty := .tup (.pair (.slX .U .str) (.pair (.int .i64) .unit))
abbrev path_Split.rs : List RV := [.t 2, .t 3]
abbrev path_Split.R : Type := (rtOf path_Split.ps path_Split.r).den
noncomputable def path_Split.d1 (n : Nat) : XC :=
  (.seq (.reg (.op (.take 53 6) none <| .op (.take 2 53) none <| .op (.mv 3 (.c ⟨.int .i64, ((0 : Int) : Int)⟩)) none <| .nil)) <|
  .ret)
noncomputable abbrev path_Split.c1 (n : Nat) : XC := path_Split.d1 n
noncomputable def path_Split.j1 (n : Nat) (x6 : List (List Int)) : Option ((List (List Int)) × Int × Unit) :=
  some (x6, (0 : Int), ())
theorem path_Split.s1 (n : Nat) (x6 : List (List Int)) : ev (path_Split.c1 n) [(6, some ⟨.slX .S .str, x6⟩)] (⟨retK path_Split.rs path_Split.ps path_Split.r, []⟩ : Ks path_Split.R) (retK path_Split.rs path_Split.ps path_Split.r) = path_Split.j1 n x6 := by kernel_rfl
noncomputable def path_Split.H1 (n : Nat) (X : XC) : St → Option path_Split.R := fun st => ghK [.keep [6]] st fun st => ev X st (⟨retK path_Split.rs path_Split.ps path_Split.r, []⟩ : Ks path_Split.R) (retK path_Split.rs path_Split.ps path_Split.r)
noncomputable abbrev path_Split.K1 (n : Nat) : St → Option path_Split.R := path_Split.H1 n (path_Split.c1 n)
noncomputable def path_Split.Kb2 (Kr2 : St → Option path_Split.R) : St → Option path_Split.R := fun st => ghK [.keep [4, 6, 7]] st Kr2
noncomputable def path_Split.db2 (n : Nat) : XC :=
  (.aft (.seq (.seq (.reg (.op (.mv 22 (.t 7)) none <| .nil)) <|
  (.cond (.t 22)
  .skip
  (.pre [.keep [6]] (.exit 0)))) <|
  (.block 1 (.seq (.reg (.op (.mv 8 (.c ⟨.str, (([] : List Int) : List Int)⟩)) none <| .nil)) <|
  (.seq (.reg (.op (.mv 24 (.t 4)) none <| .op (.call (some 25) (strings_Cut.sp n) [.v (.t 24), .v (.c ⟨.str, (([47] : List Int) : List Int)⟩)]) none <| .op (.take 23 25) none <| .op (.ext 26 23 0) none <| .op (.ext 27 23 1) none <| .op (.ext 28 23 2) none <| .op (.mv 8 (.t 26)) none <| .op (.mv 4 (.t 27)) none <| .op (.mv 7 (.t 28)) none <| .nil)) <|
  (.block 2 (.seq (.reg (.op (.mv 34 (.t 8)) none <| .op (.bin 35 .eql (.t 34) (.c ⟨.str, (([46, 46] : List Int) : List Int)⟩)) none <| .op (.mv 33 (.t 35)) none <| .nil)) <|
  (.cond (.t 33)
  (.reg (.op (.take 36 6) none <| .op (.bor 37 6) none <| .op (.len 38 (.t 37) false) none <| .op (.bin 39 .sub (.t 38) (.c ⟨.int .i64, ((1 : Int) : Int)⟩)) none <| .op (.mnx 40 true (.t 39) (.c ⟨.int .i64, ((0 : Int) : Int)⟩)) none <| .op (.slcX 41 36 (.t 40) 1) none <| .op (.take 6 41) none <| .nil))
  (.seq (.reg (.op (.mv 43 (.t 8)) none <| .op (.bin 44 .eql (.t 43) (.c ⟨.str, (([] : List Int) : List Int)⟩)) none <| .op (.mv 45 (.t 44)) none <| .grp 45 false (.op (.mv 46 (.t 8)) (some ([8, 45, 46], [46])) <| .op (.bin 47 .eql (.t 46) (.c ⟨.str, (([46] : List Int) : List Int)⟩)) (some ([45, 46, 47], [47])) <| .nil) 47 48 [46, 47] <| .op (.mv 42 (.t 48)) none <| .nil)) <|
  (.cond (.t 42)
  .skip
  (.seq (.pre [.keep [4, 6, 7, 8]] (.reg (.op (.mv 50 (.t 8)) none <| .op (.call (some 51) (path_Name.sp n) [.v (.t 50)]) none <| .op (.un 52 .not (.t 51)) none <| .op (.mv 49 (.t 52)) none <| .nil))) <|
  (.cond (.t 49)
  (.seq (.reg (.op (.mv 2 (.c ⟨.nil 0, ()⟩)) none <| .op (.mv 3 (.c ⟨.int .i64, ((3 : Int) : Int)⟩)) none <| .nil)) <|
  .ret)
  (.reg (.op (.take 29 6) none <| .op (.mv 30 (.t 8)) none <| .op (.bsl 31 .str [(.t 30)]) none <| .op (.app 32 29 (.t 31) 16 1) none <| .op (.take 6 32) none <| .nil))))))))))))) [.keep [4, 6, 7]])
noncomputable abbrev path_Split.cb2 (n : Nat) : XC := path_Split.db2 n
theorem path_Split.q1_0_r (n : Nat) (X : XC) (x6 : List (List Int)) : path_Split.H1 n X [(6, some ⟨.slX .S .str, x6⟩)] = (ev X [(6, some ⟨.slX .S .str, x6⟩)] (⟨retK path_Split.rs path_Split.ps path_Split.r, []⟩ : Ks path_Split.R) (retK path_Split.rs path_Split.ps path_Split.r) : Option path_Split.R) := by kernel_rfl
theorem path_Split.q1_0 (n : Nat) (x6 : List (List Int)) : path_Split.K1 n [(6, some ⟨.slX .S .str, x6⟩)] = path_Split.j1 n x6 := (path_Split.q1_0_r n (path_Split.c1 n) x6).trans (path_Split.s1 n x6)
noncomputable def path_Split.l2 (n : Nat) : Nat → (List Int) → (List (List Int)) → Bool → Option ((List (List Int)) × Int × Unit)
  | 0, _, _, _ => none
  | k + 1, x4, x6, x7 =>
  bif x7 then ((strings_Cut.f n x4 ([47] : List Int)).bind fun r1 => bif (decide (r1.1 = ([46, 46] : List Int))) then (sliceK 0 (imax (IntKind.i64.wrap ((x6.length : Int) - (1 : Int))) (0 : Int)) x6.length (path_Split.l2 n k r1.2.1 (x6.take ((imax (IntKind.i64.wrap ((x6.length : Int) - (1 : Int))) (0 : Int))).toNat) r1.2.2.1))
  else ((bif (decide (r1.1 = ([] : List Int))) then some true else (some (decide (r1.1 = ([46] : List Int))))).bind fun g2 =>
  bif g2 then (path_Split.l2 n k r1.2.1 x6 r1.2.2.1)
  else ((path_Name.f n r1.1).bind fun r3 => bif (!r3) then (some (([] : List (List Int)), (3 : Int), ()))
  else (appK x6.length ([r1.1] : List (List Int)).length 16 (path_Split.l2 n k r1.2.1 (x6 ++ ([r1.1] : List (List Int))) r1.2.2.1)))))
  else (path_Split.j1 n x6)
theorem path_Split.wb2 (n : Nat) (Kr2 : St → Option path_Split.R) (x4 : List Int) (x6 : List (List Int)) (x7 : Bool) (K1 : St → Option path_Split.R) : ev (path_Split.db2 n) (keepSt [(4, some ⟨.str, x4⟩), (6, some ⟨.slX .S .str, x6⟩), (7, some ⟨.bool, x7⟩)] [4, 6, 7]) (⟨retK path_Split.rs path_Split.ps path_Split.r, [(0, K1)]⟩ : Ks path_Split.R) Kr2 =
  (bif x7 then ((strings_Cut.f n x4 ([47] : List Int)).bind fun r1 => bif (decide (r1.1 = ([46, 46] : List Int))) then (sliceK 0 (imax (IntKind.i64.wrap ((x6.length : Int) - (1 : Int))) (0 : Int)) x6.length (Kr2 [(4, some ⟨.str, r1.2.1⟩), (6, some ⟨.slX .S .str, ((x6.take ((imax (IntKind.i64.wrap ((x6.length : Int) - (1 : Int))) (0 : Int))).toNat) : List (List Int))⟩), (7, some ⟨.bool, r1.2.2.1⟩)]))
  else ((bif (decide (r1.1 = ([] : List Int))) then some true else (some (decide (r1.1 = ([46] : List Int))))).bind fun g2 =>
  bif g2 then (Kr2 [(4, some ⟨.str, r1.2.1⟩), (6, some ⟨.slX .S .str, x6⟩), (7, some ⟨.bool, r1.2.2.1⟩)])
  else ((path_Name.f n r1.1).bind fun r3 => bif (!r3) then (some (([] : List (List Int)), (3 : Int), ()))
  else (appK x6.length ([r1.1] : List (List Int)).length 16 (Kr2 [(4, some ⟨.str, r1.2.1⟩), (6, some ⟨.slX .S .str, ((x6 ++ ([r1.1] : List (List Int))) : List (List Int))⟩), (7, some ⟨.bool, r1.2.2.1⟩)])))))
  else (K1 [(6, some ⟨.slX .S .str, x6⟩)]) : Option path_Split.R) := by kernel_rfl
theorem path_Split.l2_ok (n : Nat) (k : Nat) : ∀ (x4 : List Int) (x6 : List (List Int)) (x7 : Bool), loopEv [4, 6, 7] (fun s K => ev (path_Split.cb2 n) s (⟨retK path_Split.rs path_Split.ps path_Split.r, [(0, (path_Split.K1 n))]⟩ : Ks path_Split.R) K) k [(4, some ⟨.str, x4⟩), (6, some ⟨.slX .S .str, x6⟩), (7, some ⟨.bool, x7⟩)] = path_Split.l2 n k x4 x6 x7 := by
  induction k with
  | zero => intros; rfl
  | succ k ih =>
    intro x4 x6 x7
    exact (path_Split.wb2 n (fun st => loopEv [4, 6, 7] (fun s K => ev (path_Split.cb2 n) s (⟨retK path_Split.rs path_Split.ps path_Split.r, [(0, (path_Split.K1 n))]⟩ : Ks path_Split.R) K) k st) x4 x6 x7 (path_Split.K1 n)).trans (by simp only [path_Split.l2, ih, path_Split.q1_0 n] <;> kernel_rfl)
noncomputable def path_Split.d (n : Nat) (X1 Y2 : XC) : XC :=
  (.seq (.reg (.op (.mv 2 (.c ⟨.nil 0, ()⟩)) none <| .op (.mv 3 (.c ⟨.int .i64, ((0 : Int) : Int)⟩)) none <| .nil)) <|
  (.seq (.reg (.op (.mv 10 (.t 0)) none <| .op (.call (some 11) (strings_CutPrefix.sp n) [.v (.t 10), .v (.c ⟨.str, (([47] : List Int) : List Int)⟩)]) none <| .op (.take 9 11) none <| .op (.ext 12 9 0) none <| .op (.ext 13 9 1) none <| .op (.mv 4 (.t 12)) none <| .op (.mv 5 (.t 13)) none <| .nil)) <|
  (.seq (.seq (.reg (.op (.mv 14 (.t 5)) none <| .op (.un 15 .not (.t 14)) none <| .op (.mv 16 (.t 15)) none <| .grp 16 false (.op (.mv 17 (.t 0)) (some ([0, 16, 17], [17])) <| .op (.len 18 (.t 17) true) (some ([16, 17, 18], [18])) <| .op (.bin 19 .gtr (.t 18) (.c ⟨.int .i64, ((120 : Int) : Int)⟩)) (some ([16, 18, 19], [19])) <| .nil) 19 20 [17, 18, 19] <| .nil)) <|
  (.cond (.t 20)
  (.seq (.pre [.keep []] (.reg (.op (.mv 2 (.c ⟨.nil 0, ()⟩)) none <| .op (.mv 3 (.c ⟨.int .i64, ((3 : Int) : Int)⟩)) none <| .nil))) <|
  .ret)
  .skip)) <|
  (.seq (.pre [.keep [4]] (.reg (.op (.bsl 21 .str []) none <| .op (.take 6 21) none <| .nil))) <|
  (.seq (.aft (.seq (.reg (.op (.mv 7 (.c ⟨.bool, (true : Bool)⟩)) none <| .nil)) <|
  (.block 0 (.pre [.keep [4, 6, 7]] (.loop n [4, 6, 7] Y2)))) [.keep [6]]) X1)))))
noncomputable abbrev path_Split.c (n : Nat) : XC := path_Split.d n (path_Split.c1 n) (path_Split.cb2 n)
noncomputable def path_Split.f (n : Nat) (a0 : List Int) : Option ((List (List Int)) × Int × Unit) :=
  (strings_CutPrefix.f n a0 ([47] : List Int)).bind fun r1 => (bif (!r1.2.1) then some true else (some (decide ((120 : Int) < (a0.length : Int))))).bind fun g2 =>
  bif g2 then (some (([] : List (List Int)), (3 : Int), ()))
  else (path_Split.l2 n n r1.1 ([] : List (List Int)) true)
theorem path_Split.w (n : Nat) (a0 : List Int) (X1 Y2 : XC) : evFn (path_Split.d n X1 Y2) path_Split.rs path_Split.ps path_Split.r (a0, ()) =
  ((strings_CutPrefix.f n a0 ([47] : List Int)).bind fun r1 => (bif (!r1.2.1) then some true else (some (decide ((120 : Int) < (a0.length : Int))))).bind fun g2 =>
  bif g2 then (some (([] : List (List Int)), (3 : Int), ()))
  else (loopEv [4, 6, 7] (fun s K => ev Y2 s (⟨retK path_Split.rs path_Split.ps path_Split.r, [(0, (path_Split.H1 n X1))]⟩ : Ks path_Split.R) K) n [(4, some ⟨.str, r1.1⟩), (6, some ⟨.slX .S .str, (([] : List (List Int)) : List (List Int))⟩), (7, some ⟨.bool, true⟩)]) : Option path_Split.R) := by kernel_rfl
theorem path_Split.ok (n : Nat) (a0 : List Int) : evFn (path_Split.c n) path_Split.rs path_Split.ps path_Split.r (a0, ()) = path_Split.f n a0 := (path_Split.w n a0 (path_Split.c1 n) (path_Split.cb2 n)).trans (by simp only [path_Split.f, path_Split.l2_ok n] <;> kernel_rfl)
noncomputable def path_Split.sp (n : Nat) : FSpec := { f := 6, ps := path_Split.ps, r := path_Split.r, run := fun x => path_Split.f n x.1 }
theorem path_Split.calls (n : Nat) : (path_Split.c n).calls = [strings_CutPrefix.sp n, strings_Cut.sp n, path_Name.sp n] := by kernel_rfl
theorem path_Split.fits (n : Nat) : fnB tab hd Tryd.f6 (path_Split.c n) path_Split.rs (path_Split.sp n).ps (path_Split.sp n).r = true := by kernel_rfl
theorem path_Split.sound (n : Nat) : Sound Tryd.prog (path_Split.sp n) := by
  refine fnB_sound tabOk eqFacts mixed (fn := Tryd.f6) (c := path_Split.c n) (rs := path_Split.rs) (by kernel_rfl) ?_ (path_Split.fits n) ?_
  · rw [path_Split.calls]
    intro s hs
    simp only [List.mem_cons, List.not_mem_nil, or_false] at hs
    rcases hs with rfl | rfl | rfl
    · exact strings_CutPrefix.meets n
    · exact strings_Cut.meets n
    · exact path_Name.meets n
  · rintro ⟨a0, ⟨⟩⟩ y h
    exact (path_Split.ok n a0).trans h
theorem path_Split.meets (n : Nat) : Meets Tryd.prog (path_Split.sp n) := (path_Split.sound n).meets
/-! unicode/utf8.RuneCountInString -/
abbrev unicode_utf8_RuneCountInString.ps : List (Ty × Bool) := [(.str, false)]
abbrev unicode_utf8_RuneCountInString.r : Ty := .int .i64
abbrev unicode_utf8_RuneCountInString.rs : List RV := [.t 2]
abbrev unicode_utf8_RuneCountInString.R : Type := (rtOf unicode_utf8_RuneCountInString.ps unicode_utf8_RuneCountInString.r).den
noncomputable def unicode_utf8_RuneCountInString.d1 (n : Nat) : XC :=
  (.seq (.reg (.op (.mv 9 (.t 2)) none <| .op (.mv 2 (.t 9)) none <| .nil)) <|
  .ret)
noncomputable abbrev unicode_utf8_RuneCountInString.c1 (n : Nat) : XC := unicode_utf8_RuneCountInString.d1 n
noncomputable def unicode_utf8_RuneCountInString.j1 (n : Nat) (x2 : Int) : Option Int :=
  some x2
theorem unicode_utf8_RuneCountInString.s1 (n : Nat) (x2 : Int) : ev (unicode_utf8_RuneCountInString.c1 n) [(2, some ⟨.int .i64, x2⟩)] (⟨retK unicode_utf8_RuneCountInString.rs unicode_utf8_RuneCountInString.ps unicode_utf8_RuneCountInString.r, []⟩ : Ks unicode_utf8_RuneCountInString.R) (retK unicode_utf8_RuneCountInString.rs unicode_utf8_RuneCountInString.ps unicode_utf8_RuneCountInString.r) = unicode_utf8_RuneCountInString.j1 n x2 := by kernel_rfl
noncomputable def unicode_utf8_RuneCountInString.H1 (n : Nat) (X : XC) : St → Option unicode_utf8_RuneCountInString.R := fun st => ghK [.keep [2]] st fun st => ev X st (⟨retK unicode_utf8_RuneCountInString.rs unicode_utf8_RuneCountInString.ps unicode_utf8_RuneCountInString.r, []⟩ : Ks unicode_utf8_RuneCountInString.R) (retK unicode_utf8_RuneCountInString.rs unicode_utf8_RuneCountInString.ps unicode_utf8_RuneCountInString.r)
noncomputable abbrev unicode_utf8_RuneCountInString.K1 (n : Nat) : St → Option unicode_utf8_RuneCountInString.R := unicode_utf8_RuneCountInString.H1 n (unicode_utf8_RuneCountInString.c1 n)
noncomputable def unicode_utf8_RuneCountInString.Kb2 (Kr2 : St → Option unicode_utf8_RuneCountInString.R) : St → Option unicode_utf8_RuneCountInString.R := fun st => ghK [.keep [2, 4]] st Kr2
noncomputable def unicode_utf8_RuneCountInString.db2 (n : Nat) : XC :=
  (.aft (.seq (.reg (.op (.nxt 5 4) none <| .op (.ext 6 5 0) none <| .nil)) <|
  (.seq (.cond (.t 6)
  .skip
  (.pre [.keep [2]] (.exit 0))) <|
  (.block 1 (.reg (.op (.mv 7 (.t 2)) none <| .op (.bin 8 .add (.t 7) (.c ⟨.int .i64, ((1 : Int) : Int)⟩)) none <| .op (.mv 2 (.t 8)) none <| .nil))))) [.keep [2, 4]])
noncomputable abbrev unicode_utf8_RuneCountInString.cb2 (n : Nat) : XC := unicode_utf8_RuneCountInString.db2 n
theorem unicode_utf8_RuneCountInString.q1_0_r (n : Nat) (X : XC) (x2 : Int) : unicode_utf8_RuneCountInString.H1 n X [(2, some ⟨.int .i64, x2⟩)] = (ev X [(2, some ⟨.int .i64, x2⟩)] (⟨retK unicode_utf8_RuneCountInString.rs unicode_utf8_RuneCountInString.ps unicode_utf8_RuneCountInString.r, []⟩ : Ks unicode_utf8_RuneCountInString.R) (retK unicode_utf8_RuneCountInString.rs unicode_utf8_RuneCountInString.ps unicode_utf8_RuneCountInString.r) : Option unicode_utf8_RuneCountInString.R) := by kernel_rfl
theorem unicode_utf8_RuneCountInString.q1_0 (n : Nat) (x2 : Int) : unicode_utf8_RuneCountInString.K1 n [(2, some ⟨.int .i64, x2⟩)] = unicode_utf8_RuneCountInString.j1 n x2 := (unicode_utf8_RuneCountInString.q1_0_r n (unicode_utf8_RuneCountInString.c1 n) x2).trans (unicode_utf8_RuneCountInString.s1 n x2)
noncomputable def unicode_utf8_RuneCountInString.l2 (n : Nat) : Nat → Int → (List Int × Int) → Option Int
  | 0, _, _ => none
  | k + 1, x2, x4 =>
  bif decide (x4.2 < (x4.1.length : Int)) then (unicode_utf8_RuneCountInString.l2 n k (IntKind.i64.wrap (x2 + (1 : Int))) (x4.1, (x4.2 + (decL x4.1 x4.2).2)))
  else (unicode_utf8_RuneCountInString.j1 n x2)
theorem unicode_utf8_RuneCountInString.wb2 (n : Nat) (Kr2 : St → Option unicode_utf8_RuneCountInString.R) (x2 : Int) (x4 : List Int × Int) (K1 : St → Option unicode_utf8_RuneCountInString.R) : ev (unicode_utf8_RuneCountInString.db2 n) (keepSt [(2, some ⟨.int .i64, x2⟩), (4, some ⟨.siter, x4⟩)] [2, 4]) (⟨retK unicode_utf8_RuneCountInString.rs unicode_utf8_RuneCountInString.ps unicode_utf8_RuneCountInString.r, [(0, K1)]⟩ : Ks unicode_utf8_RuneCountInString.R) Kr2 =
  (bif decide (x4.2 < (x4.1.length : Int)) then (Kr2 [(2, some ⟨.int .i64, (IntKind.i64.wrap (x2 + (1 : Int)))⟩), (4, some ⟨.siter, ((x4.1, (x4.2 + (decL x4.1 x4.2).2)) : List Int × Int)⟩)])
  else (K1 [(2, some ⟨.int .i64, x2⟩)]) : Option unicode_utf8_RuneCountInString.R) := by kernel_rfl
theorem unicode_utf8_RuneCountInString.l2_ok (n : Nat) (k : Nat) : ∀ (x2 : Int) (x4 : List Int × Int), loopEv [2, 4] (fun s K => ev (unicode_utf8_RuneCountInString.cb2 n) s (⟨retK unicode_utf8_RuneCountInString.rs unicode_utf8_RuneCountInString.ps unicode_utf8_RuneCountInString.r, [(0, (unicode_utf8_RuneCountInString.K1 n))]⟩ : Ks unicode_utf8_RuneCountInString.R) K) k [(2, some ⟨.int .i64, x2⟩), (4, some ⟨.siter, x4⟩)] = unicode_utf8_RuneCountInString.l2 n k x2 x4 := by
  induction k with
  | zero => intros; rfl
  | succ k ih =>
    intro x2 x4
    exact (unicode_utf8_RuneCountInString.wb2 n (fun st => loopEv [2, 4] (fun s K => ev (unicode_utf8_RuneCountInString.cb2 n) s (⟨retK unicode_utf8_RuneCountInString.rs unicode_utf8_RuneCountInString.ps unicode_utf8_RuneCountInString.r, [(0, (unicode_utf8_RuneCountInString.K1 n))]⟩ : Ks unicode_utf8_RuneCountInString.R) K) k st) x2 x4 (unicode_utf8_RuneCountInString.K1 n)).trans (by simp only [unicode_utf8_RuneCountInString.l2, ih, unicode_utf8_RuneCountInString.q1_0 n] <;> kernel_rfl)
noncomputable def unicode_utf8_RuneCountInString.d (n : Nat) (X1 Y2 : XC) : XC :=
  (.seq (.reg (.op (.mv 2 (.c ⟨.int .i64, ((0 : Int) : Int)⟩)) none <| .nil)) <|
  (.seq (.aft (.seq (.reg (.op (.mv 3 (.t 0)) none <| .op (.rng 4 (.t 3)) none <| .nil)) <|
  (.block 0 (.pre [.keep [2, 4]] (.loop n [2, 4] Y2)))) [.keep [2]]) X1))
noncomputable abbrev unicode_utf8_RuneCountInString.c (n : Nat) : XC := unicode_utf8_RuneCountInString.d n (unicode_utf8_RuneCountInString.c1 n) (unicode_utf8_RuneCountInString.cb2 n)
noncomputable def unicode_utf8_RuneCountInString.f (n : Nat) (a0 : List Int) : Option Int :=
  unicode_utf8_RuneCountInString.l2 n n (0 : Int) (a0, (0 : Int))
theorem unicode_utf8_RuneCountInString.w (n : Nat) (a0 : List Int) (X1 Y2 : XC) : evFn (unicode_utf8_RuneCountInString.d n X1 Y2) unicode_utf8_RuneCountInString.rs unicode_utf8_RuneCountInString.ps unicode_utf8_RuneCountInString.r (a0, ()) =
  (loopEv [2, 4] (fun s K => ev Y2 s (⟨retK unicode_utf8_RuneCountInString.rs unicode_utf8_RuneCountInString.ps unicode_utf8_RuneCountInString.r, [(0, (unicode_utf8_RuneCountInString.H1 n X1))]⟩ : Ks unicode_utf8_RuneCountInString.R) K) n [(2, some ⟨.int .i64, (0 : Int)⟩), (4, some ⟨.siter, ((a0, (0 : Int)) : List Int × Int)⟩)] : Option unicode_utf8_RuneCountInString.R) := by kernel_rfl
theorem unicode_utf8_RuneCountInString.ok (n : Nat) (a0 : List Int) : evFn (unicode_utf8_RuneCountInString.c n) unicode_utf8_RuneCountInString.rs unicode_utf8_RuneCountInString.ps unicode_utf8_RuneCountInString.r (a0, ()) = unicode_utf8_RuneCountInString.f n a0 := (unicode_utf8_RuneCountInString.w n a0 (unicode_utf8_RuneCountInString.c1 n) (unicode_utf8_RuneCountInString.cb2 n)).trans (by simp only [unicode_utf8_RuneCountInString.f, unicode_utf8_RuneCountInString.l2_ok n] <;> kernel_rfl)
noncomputable def unicode_utf8_RuneCountInString.sp (n : Nat) : FSpec := { f := 44, ps := unicode_utf8_RuneCountInString.ps, r := unicode_utf8_RuneCountInString.r, run := fun x => unicode_utf8_RuneCountInString.f n x.1 }
theorem unicode_utf8_RuneCountInString.calls (n : Nat) : (unicode_utf8_RuneCountInString.c n).calls = [] := by kernel_rfl
theorem unicode_utf8_RuneCountInString.fits (n : Nat) : fnB tab hd Tryd.f44 (unicode_utf8_RuneCountInString.c n) unicode_utf8_RuneCountInString.rs (unicode_utf8_RuneCountInString.sp n).ps (unicode_utf8_RuneCountInString.sp n).r = true := by kernel_rfl
theorem unicode_utf8_RuneCountInString.sound (n : Nat) : Sound Tryd.prog (unicode_utf8_RuneCountInString.sp n) := by
  refine fnB_sound tabOk eqFacts mixed (fn := Tryd.f44) (c := unicode_utf8_RuneCountInString.c n) (rs := unicode_utf8_RuneCountInString.rs) (by kernel_rfl) ?_ (unicode_utf8_RuneCountInString.fits n) ?_
  · rw [unicode_utf8_RuneCountInString.calls]
    intro s hs; cases hs
  · rintro ⟨a0, ⟨⟩⟩ y h
    exact (unicode_utf8_RuneCountInString.ok n a0).trans h
theorem unicode_utf8_RuneCountInString.meets (n : Nat) : Meets Tryd.prog (unicode_utf8_RuneCountInString.sp n) := (unicode_utf8_RuneCountInString.sound n).meets
/-! unicode/utf8.DecodeRuneInString -/
abbrev unicode_utf8_DecodeRuneInString.ps : List (Ty × Bool) := [(.str, false)]
abbrev unicode_utf8_DecodeRuneInString.r : Ty := .tup (.pair (.int .i32) (.pair (.int .i64) .unit))
abbrev unicode_utf8_DecodeRuneInString.rs : List RV := [.t 2, .t 3]
abbrev unicode_utf8_DecodeRuneInString.R : Type := (rtOf unicode_utf8_DecodeRuneInString.ps unicode_utf8_DecodeRuneInString.r).den
noncomputable def unicode_utf8_DecodeRuneInString.d (n : Nat) : XC :=
  (.seq (.reg (.op (.mv 2 (.c ⟨.int .i32, ((0 : Int) : Int)⟩)) none <| .op (.mv 3 (.c ⟨.int .i64, ((0 : Int) : Int)⟩)) none <| .nil)) <|
  (.seq (.seq (.reg (.op (.mv 4 (.t 0)) none <| .op (.bin 5 .neq (.t 4) (.c ⟨.str, (([] : List Int) : List Int)⟩)) none <| .op (.mv 6 (.t 5)) none <| .grp 6 true (.op (.mv 7 (.t 0)) (some ([0, 6, 7], [7])) <| .op (.idx 8 (.t 7) (.c ⟨.int .i64, ((0 : Int) : Int)⟩) 1 false 0) (some ([6, 7, 8], [8])) <| .op (.bin 9 .lss (.t 8) (.c ⟨.int .u8, ((128 : Int) : Int)⟩)) (some ([6, 8, 9], [9])) <| .nil) 9 10 [7, 8, 9] <| .nil)) <|
  (.cond (.t 10)
  (.seq (.reg (.op (.mv 11 (.t 0)) none <| .op (.idx 12 (.t 11) (.c ⟨.int .i64, ((0 : Int) : Int)⟩) 1 false 0) none <| .op (.cvt 13 (.int .i32) (.t 12)) none <| .op (.mv 2 (.t 13)) none <| .op (.mv 3 (.c ⟨.int .i64, ((1 : Int) : Int)⟩)) none <| .nil)) <|
  .ret)
  .dead)) <|
  .dead))
noncomputable abbrev unicode_utf8_DecodeRuneInString.c (n : Nat) : XC := unicode_utf8_DecodeRuneInString.d n
noncomputable def unicode_utf8_DecodeRuneInString.f (n : Nat) (a0 : List Int) : Option (Int × Int × Unit) :=
  (bif (!decide (a0 = ([] : List Int))) then (idxK a0 (0 : Int) fun e2 => some (decide (e2 < (128 : Int)))) else some false).bind fun g1 =>
  bif g1 then (idxK a0 (0 : Int) fun e3 => some ((IntKind.i32.wrap e3), (1 : Int), ()))
  else (none)
theorem unicode_utf8_DecodeRuneInString.ok (n : Nat) (a0 : List Int) : evFn (unicode_utf8_DecodeRuneInString.c n) unicode_utf8_DecodeRuneInString.rs unicode_utf8_DecodeRuneInString.ps unicode_utf8_DecodeRuneInString.r (a0, ()) = unicode_utf8_DecodeRuneInString.f n a0 := by kernel_rfl
noncomputable def unicode_utf8_DecodeRuneInString.sp (n : Nat) : FSpec := { f := 45, ps := unicode_utf8_DecodeRuneInString.ps, r := unicode_utf8_DecodeRuneInString.r, run := fun x => unicode_utf8_DecodeRuneInString.f n x.1 }
theorem unicode_utf8_DecodeRuneInString.calls (n : Nat) : (unicode_utf8_DecodeRuneInString.c n).calls = [] := by kernel_rfl
theorem unicode_utf8_DecodeRuneInString.fits (n : Nat) : fnB tab hd Tryd.f45 (unicode_utf8_DecodeRuneInString.c n) unicode_utf8_DecodeRuneInString.rs (unicode_utf8_DecodeRuneInString.sp n).ps (unicode_utf8_DecodeRuneInString.sp n).r = true := by kernel_rfl
theorem unicode_utf8_DecodeRuneInString.sound (n : Nat) : Sound Tryd.prog (unicode_utf8_DecodeRuneInString.sp n) := by
  refine fnB_sound tabOk eqFacts mixed (fn := Tryd.f45) (c := unicode_utf8_DecodeRuneInString.c n) (rs := unicode_utf8_DecodeRuneInString.rs) (by kernel_rfl) ?_ (unicode_utf8_DecodeRuneInString.fits n) ?_
  · rw [unicode_utf8_DecodeRuneInString.calls]
    intro s hs; cases hs
  · rintro ⟨a0, ⟨⟩⟩ y h
    exact (unicode_utf8_DecodeRuneInString.ok n a0).trans h
theorem unicode_utf8_DecodeRuneInString.meets (n : Nat) : Meets Tryd.prog (unicode_utf8_DecodeRuneInString.sp n) := (unicode_utf8_DecodeRuneInString.sound n).meets
/-! strings.explode -/
abbrev strings_explode.ps : List (Ty × Bool) := [(.str, false), (.int .i64, false)]
abbrev strings_explode.r : Ty := .slX .S .str
abbrev strings_explode.rs : List RV := [.t 4]
abbrev strings_explode.R : Type := (rtOf strings_explode.ps strings_explode.r).den
noncomputable def strings_explode.d3 (n : Nat) : XC :=
  (.seq (.reg (.op (.take 49 6) none <| .op (.take 4 49) none <| .nil)) <|
  .ret)
noncomputable abbrev strings_explode.c3 (n : Nat) : XC := strings_explode.d3 n
noncomputable def strings_explode.j3 (n : Nat) (x6 : List (List Int)) : Option (List (List Int)) :=
  some x6
theorem strings_explode.s3 (n : Nat) (x6 : List (List Int)) : ev (strings_explode.c3 n) [(6, some ⟨.slX .S .str, x6⟩)] (⟨retK strings_explode.rs strings_explode.ps strings_explode.r, []⟩ : Ks strings_explode.R) (retK strings_explode.rs strings_explode.ps strings_explode.r) = strings_explode.j3 n x6 := by kernel_rfl
noncomputable def strings_explode.H3 (n : Nat) (X : XC) : St → Option strings_explode.R := fun st => ghK [.keep [6]] st fun st => ev X st (⟨retK strings_explode.rs strings_explode.ps strings_explode.r, []⟩ : Ks strings_explode.R) (retK strings_explode.rs strings_explode.ps strings_explode.r)
noncomputable abbrev strings_explode.K3 (n : Nat) : St → Option strings_explode.R := strings_explode.H3 n (strings_explode.c3 n)
noncomputable def strings_explode.d2 (n : Nat) (X3 : XC) : XC :=
  (.seq (.aft (.seq (.reg (.op (.mv 42 (.t 1)) none <| .op (.bin 43 .gtr (.t 42) (.c ⟨.int .i64, ((0 : Int) : Int)⟩)) none <| .nil)) <|
  (.cond (.t 43)
  (.reg (.op (.als 44 6) none <| .op (.mv 45 (.t 1)) none <| .op (.bin 46 .sub (.t 45) (.c ⟨.int .i64, ((1 : Int) : Int)⟩)) none <| .op (.mv 47 (.t 0)) none <| .op (.idxE 48 (.t 44) (.t 46) 1) none <| .op (.stE 48 (.t 47) 1) none <| .nil))
  .skip)) [.keep [6]]) X3)
noncomputable abbrev strings_explode.c2 (n : Nat) : XC := strings_explode.d2 n (strings_explode.c3 n)
noncomputable def strings_explode.j2 (n : Nat) (x0 : List Int) (x1 : Int) (x6 : List (List Int)) : Option (List (List Int)) :=
  bif (decide ((0 : Int) < x1)) then (inK' (IntKind.i64.wrap (x1 - (1 : Int))) x6.length (idxK x6 (IntKind.i64.wrap (x1 - (1 : Int))) fun e1 => strings_explode.j3 n (lset x6 (IntKind.i64.wrap (x1 - (1 : Int))) x0)))
  else (strings_explode.j3 n x6)
theorem strings_explode.w2 (n : Nat) (x0 : List Int) (x1 : Int) (x6 : List (List Int)) (X3 : XC) : ev (strings_explode.d2 n X3) [(0, some ⟨.str, x0⟩), (1, some ⟨.int .i64, x1⟩), (6, some ⟨.slX .S .str, x6⟩)] (⟨retK strings_explode.rs strings_explode.ps strings_explode.r, []⟩ : Ks strings_explode.R) (retK strings_explode.rs strings_explode.ps strings_explode.r) =
  (bif (decide ((0 : Int) < x1)) then (inK' (IntKind.i64.wrap (x1 - (1 : Int))) x6.length (idxK x6 (IntKind.i64.wrap (x1 - (1 : Int))) fun e1 => ev X3 [(6, some ⟨.slX .S .str, ((lset x6 (IntKind.i64.wrap (x1 - (1 : Int))) x0) : List (List Int))⟩)] (⟨retK strings_explode.rs strings_explode.ps strings_explode.r, []⟩ : Ks strings_explode.R) (retK strings_explode.rs strings_explode.ps strings_explode.r)))
  else (ev X3 [(6, some ⟨.slX .S .str, x6⟩)] (⟨retK strings_explode.rs strings_explode.ps strings_explode.r, []⟩ : Ks strings_explode.R) (retK strings_explode.rs strings_explode.ps strings_explode.r)) : Option strings_explode.R) := by kernel_rfl
theorem strings_explode.s2 (n : Nat) (x0 : List Int) (x1 : Int) (x6 : List (List Int)) : ev (strings_explode.c2 n) [(0, some ⟨.str, x0⟩), (1, some ⟨.int .i64, x1⟩), (6, some ⟨.slX .S .str, x6⟩)] (⟨retK strings_explode.rs strings_explode.ps strings_explode.r, []⟩ : Ks strings_explode.R) (retK strings_explode.rs strings_explode.ps strings_explode.r) = strings_explode.j2 n x0 x1 x6 := (strings_explode.w2 n x0 x1 x6 (strings_explode.c3 n)).trans (by simp only [strings_explode.j2, strings_explode.s3 n] <;> kernel_rfl)
noncomputable def strings_explode.H2 (n : Nat) (X : XC) : St → Option strings_explode.R := fun st => ghK [.keep [0, 1, 6]] st fun st => ev X st (⟨retK strings_explode.rs strings_explode.ps strings_explode.r, []⟩ : Ks strings_explode.R) (retK strings_explode.rs strings_explode.ps strings_explode.r)
noncomputable abbrev strings_explode.K2 (n : Nat) : St → Option strings_explode.R := strings_explode.H2 n (strings_explode.c2 n)
noncomputable def strings_explode.Kb4 (Kr4 : St → Option strings_explode.R) : St → Option strings_explode.R := fun st => ghK [.keep [0, 1, 6, 7]] st Kr4
noncomputable def strings_explode.d5 (n : Nat) : XC :=
  (.aft (.reg (.op (.mv 26 (.t 7)) none <| .op (.bin 27 .add (.t 26) (.c ⟨.int .i64, ((1 : Int) : Int)⟩)) none <| .op (.mv 7 (.t 27)) none <| .nil)) [.keep [0, 1, 6, 7]])
noncomputable abbrev strings_explode.c5 (n : Nat) : XC := strings_explode.d5 n
theorem strings_explode.qb4_0 (Kr4 : St → Option strings_explode.R) (kr4 : (List Int) → Int → (List (List Int)) → Int → Option (List (List Int))) (hK4 : ∀ (x0 : List Int) (x1 : Int) (x6 : List (List Int)) (x7 : Int), Kr4 [(0, some ⟨.str, x0⟩), (1, some ⟨.int .i64, x1⟩), (6, some ⟨.slX .S .str, x6⟩), (7, some ⟨.int .i64, x7⟩)] = kr4 x0 x1 x6 x7) (x0 : List Int) (x1 : Int) (x6 : List (List Int)) (x7 : Int) : strings_explode.Kb4 Kr4 [(0, some ⟨.str, x0⟩), (1, some ⟨.int .i64, x1⟩), (6, some ⟨.slX .S .str, x6⟩), (7, some ⟨.int .i64, x7⟩)] = kr4 x0 x1 x6 x7 := (by kernel_rfl : _ = Kr4 [(0, some ⟨.str, x0⟩), (1, some ⟨.int .i64, x1⟩), (6, some ⟨.slX .S .str, x6⟩), (7, some ⟨.int .i64, x7⟩)]).trans (hK4 x0 x1 x6 x7)
noncomputable def strings_explode.j5 (n : Nat) (kr4 : (List Int) → Int → (List (List Int)) → Int → Option (List (List Int))) (x0 : List Int) (x1 : Int) (x6 : List (List Int)) (x7 : Int) : Option (List (List Int)) :=
  kr4 x0 x1 x6 (IntKind.i64.wrap (x7 + (1 : Int)))
theorem strings_explode.w5 (n : Nat) (Kr4 : St → Option strings_explode.R) (x0 : List Int) (x1 : Int) (x6 : List (List Int)) (x7 : Int) (K2 : St → Option strings_explode.R) (Kb4 : St → Option strings_explode.R) : ev (strings_explode.d5 n) [(0, some ⟨.str, x0⟩), (1, some ⟨.int .i64, x1⟩), (6, some ⟨.slX .S .str, x6⟩), (7, some ⟨.int .i64, x7⟩)] (⟨retK strings_explode.rs strings_explode.ps strings_explode.r, [(0, K2)]⟩ : Ks strings_explode.R) Kb4 =
  (Kb4 [(0, some ⟨.str, x0⟩), (1, some ⟨.int .i64, x1⟩), (6, some ⟨.slX .S .str, x6⟩), (7, some ⟨.int .i64, (IntKind.i64.wrap (x7 + (1 : Int)))⟩)] : Option strings_explode.R) := by kernel_rfl
theorem strings_explode.s5 (n : Nat) (Kr4 : St → Option strings_explode.R) (kr4 : (List Int) → Int → (List (List Int)) → Int → Option (List (List Int))) (hK4 : ∀ (x0 : List Int) (x1 : Int) (x6 : List (List Int)) (x7 : Int), Kr4 [(0, some ⟨.str, x0⟩), (1, some ⟨.int .i64, x1⟩), (6, some ⟨.slX .S .str, x6⟩), (7, some ⟨.int .i64, x7⟩)] = kr4 x0 x1 x6 x7) (x0 : List Int) (x1 : Int) (x6 : List (List Int)) (x7 : Int) : ev (strings_explode.c5 n) [(0, some ⟨.str, x0⟩), (1, some ⟨.int .i64, x1⟩), (6, some ⟨.slX .S .str, x6⟩), (7, some ⟨.int .i64, x7⟩)] (⟨retK strings_explode.rs strings_explode.ps strings_explode.r, [(0, (strings_explode.K2 n))]⟩ : Ks strings_explode.R) (strings_explode.Kb4 Kr4) = strings_explode.j5 n kr4 x0 x1 x6 x7 := (strings_explode.w5 n Kr4 x0 x1 x6 x7 (strings_explode.K2 n) (strings_explode.Kb4 Kr4)).trans (by simp only [strings_explode.j5, strings_explode.qb4_0 Kr4 kr4 hK4] <;> kernel_rfl)
noncomputable def strings_explode.H5 (n : Nat) (K2 : St → Option strings_explode.R) (Kb4 : St → Option strings_explode.R) (X : XC) : St → Option strings_explode.R := fun st => ghK [.keep [0, 1, 6, 7]] st fun st => ev X st (⟨retK strings_explode.rs strings_explode.ps strings_explode.r, [(0, K2)]⟩ : Ks strings_explode.R) Kb4
noncomputable abbrev strings_explode.K5 (n : Nat) (Kr4 : St → Option strings_explode.R) : St → Option strings_explode.R := strings_explode.H5 n (strings_explode.K2 n) (strings_explode.Kb4 Kr4) (strings_explode.c5 n)
noncomputable def strings_explode.db4 (n : Nat) (X5 : XC) : XC :=
  (.aft (.seq (.seq (.reg (.op (.mv 22 (.t 7)) none <| .op (.mv 23 (.t 1)) none <| .op (.bin 24 .sub (.t 23) (.c ⟨.int .i64, ((1 : Int) : Int)⟩)) none <| .op (.bin 25 .lss (.t 22) (.t 24)) none <| .nil)) <|
  (.cond (.t 25)
  .skip
  (.pre [.keep [0, 1, 6]] (.exit 0)))) <|
  (.seq (.aft (.block 1 (.seq (.reg (.op (.mv 29 (.t 0)) none <| .op (.call (some 30) (unicode_utf8_DecodeRuneInString.sp n) [.v (.t 29)]) none <| .op (.take 28 30) none <| .op (.ext 31 28 0) none <| .op (.ext 32 28 1) none <| .op (.mv 8 (.t 31)) none <| .op (.mv 9 (.t 32)) none <| .nil)) <|
  (.seq (.reg (.op (.als 33 6) none <| .op (.mv 34 (.t 7)) none <| .op (.mv 35 (.t 0)) none <| .op (.mv 36 (.t 9)) none <| .op (.slc 37 (.t 35) none (some (.t 36)) none 0) none <| .op (.idxE 38 (.t 33) (.t 34) 1) none <| .op (.stE 38 (.t 37) 1) none <| .nil)) <|
  (.pre [.keep [0, 1, 6, 7, 9]] (.reg (.op (.mv 39 (.t 0)) none <| .op (.mv 40 (.t 9)) none <| .op (.slc 41 (.t 39) (some (.t 40)) none none 0) none <| .op (.mv 0 (.t 41)) none <| .nil)))))) [.keep [0, 1, 6, 7]]) X5)) [.keep [0, 1, 6, 7]])
noncomputable abbrev strings_explode.cb4 (n : Nat) : XC := strings_explode.db4 n (strings_explode.c5 n)
theorem strings_explode.q2_0_r (n : Nat) (X : XC) (x0 : List Int) (x1 : Int) (x6 : List (List Int)) : strings_explode.H2 n X [(0, some ⟨.str, x0⟩), (1, some ⟨.int .i64, x1⟩), (6, some ⟨.slX .S .str, x6⟩)] = (ev X [(0, some ⟨.str, x0⟩), (1, some ⟨.int .i64, x1⟩), (6, some ⟨.slX .S .str, x6⟩)] (⟨retK strings_explode.rs strings_explode.ps strings_explode.r, []⟩ : Ks strings_explode.R) (retK strings_explode.rs strings_explode.ps strings_explode.r) : Option strings_explode.R) := by kernel_rfl
theorem strings_explode.q2_0 (n : Nat) (x0 : List Int) (x1 : Int) (x6 : List (List Int)) : strings_explode.K2 n [(0, some ⟨.str, x0⟩), (1, some ⟨.int .i64, x1⟩), (6, some ⟨.slX .S .str, x6⟩)] = strings_explode.j2 n x0 x1 x6 := (strings_explode.q2_0_r n (strings_explode.c2 n) x0 x1 x6).trans (strings_explode.s2 n x0 x1 x6)
noncomputable def strings_explode.l4 (n : Nat) : Nat → (List Int) → Int → (List (List Int)) → Int → Option (List (List Int))
  | 0, _, _, _, _ => none
  | k + 1, x0, x1, x6, x7 =>
  bif (decide (x7 < (IntKind.i64.wrap (x1 - (1 : Int))))) then ((unicode_utf8_DecodeRuneInString.f n x0).bind fun r1 => sliceK 0 r1.2.1 x0.length (inK' x7 x6.length (idxK x6 x7 fun e2 => sliceK r1.2.1 (x0.length : Int) x0.length (strings_explode.j5 n (strings_explode.l4 n k) (cut x0 r1.2.1 (x0.length : Int)) x1 (lset x6 x7 (cut x0 0 r1.2.1)) x7))))
  else (strings_explode.j2 n x0 x1 x6)
theorem strings_explode.wb4 (n : Nat) (Kr4 : St → Option strings_explode.R) (x0 : List Int) (x1 : Int) (x6 : List (List Int)) (x7 : Int) (K2 : St → Option strings_explode.R) (X5 : XC) : ev (strings_explode.db4 n X5) (keepSt [(0, some ⟨.str, x0⟩), (1, some ⟨.int .i64, x1⟩), (6, some ⟨.slX .S .str, x6⟩), (7, some ⟨.int .i64, x7⟩)] [0, 1, 6, 7]) (⟨retK strings_explode.rs strings_explode.ps strings_explode.r, [(0, K2)]⟩ : Ks strings_explode.R) Kr4 =
  (bif (decide (x7 < (IntKind.i64.wrap (x1 - (1 : Int))))) then ((unicode_utf8_DecodeRuneInString.f n x0).bind fun r1 => sliceK 0 r1.2.1 x0.length (inK' x7 x6.length (idxK x6 x7 fun e2 => sliceK r1.2.1 (x0.length : Int) x0.length (ev X5 [(0, some ⟨.str, ((cut x0 r1.2.1 (x0.length : Int)) : List Int)⟩), (1, some ⟨.int .i64, x1⟩), (6, some ⟨.slX .S .str, ((lset x6 x7 (cut x0 0 r1.2.1)) : List (List Int))⟩), (7, some ⟨.int .i64, x7⟩)] (⟨retK strings_explode.rs strings_explode.ps strings_explode.r, [(0, K2)]⟩ : Ks strings_explode.R) (strings_explode.Kb4 Kr4)))))
  else (K2 [(0, some ⟨.str, x0⟩), (1, some ⟨.int .i64, x1⟩), (6, some ⟨.slX .S .str, x6⟩)]) : Option strings_explode.R) := by kernel_rfl
theorem strings_explode.l4_ok (n : Nat) (k : Nat) : ∀ (x0 : List Int) (x1 : Int) (x6 : List (List Int)) (x7 : Int), loopEv [0, 1, 6, 7] (fun s K => ev (strings_explode.cb4 n) s (⟨retK strings_explode.rs strings_explode.ps strings_explode.r, [(0, (strings_explode.K2 n))]⟩ : Ks strings_explode.R) K) k [(0, some ⟨.str, x0⟩), (1, some ⟨.int .i64, x1⟩), (6, some ⟨.slX .S .str, x6⟩), (7, some ⟨.int .i64, x7⟩)] = strings_explode.l4 n k x0 x1 x6 x7 := by
  induction k with
  | zero => intros; rfl
  | succ k ih =>
    intro x0 x1 x6 x7
    exact (strings_explode.wb4 n (fun st => loopEv [0, 1, 6, 7] (fun s K => ev (strings_explode.cb4 n) s (⟨retK strings_explode.rs strings_explode.ps strings_explode.r, [(0, (strings_explode.K2 n))]⟩ : Ks strings_explode.R) K) k st) x0 x1 x6 x7 (strings_explode.K2 n) (strings_explode.c5 n)).trans (by simp only [strings_explode.l4, strings_explode.s5 n (fun st => loopEv [0, 1, 6, 7] (fun s K => ev (strings_explode.cb4 n) s (⟨retK strings_explode.rs strings_explode.ps strings_explode.r, [(0, (strings_explode.K2 n))]⟩ : Ks strings_explode.R) K) k st) (strings_explode.l4 n k) ih, strings_explode.q2_0 n] <;> kernel_rfl)
noncomputable def strings_explode.d1 (n : Nat) (X2 Y4 : XC) : XC :=
  (.seq (.reg (.op (.mv 20 (.t 1)) none <| .op (.mk 21 ⟨.str, (([] : List Int) : List Int)⟩ (.t 20) (.t 20) 16) none <| .op (.take 6 21) none <| .nil)) <|
  (.seq (.aft (.seq (.reg (.op (.mv 7 (.c ⟨.int .i64, ((0 : Int) : Int)⟩)) none <| .nil)) <|
  (.block 0 (.pre [.keep [0, 1, 6, 7]] (.loop n [0, 1, 6, 7] Y4)))) [.keep [0, 1, 6]]) X2))
noncomputable abbrev strings_explode.c1 (n : Nat) : XC := strings_explode.d1 n (strings_explode.c2 n) (strings_explode.cb4 n)
noncomputable def strings_explode.j1 (n : Nat) (x0 : List Int) (x1 : Int) : Option (List (List Int)) :=
  mkK x1 x1 16 (strings_explode.l4 n n x0 x1 (List.replicate (x1).toNat ([] : List Int)) (0 : Int))
theorem strings_explode.w1 (n : Nat) (x0 : List Int) (x1 : Int) (X2 Y4 : XC) : ev (strings_explode.d1 n X2 Y4) [(0, some ⟨.str, x0⟩), (1, some ⟨.int .i64, x1⟩)] (⟨retK strings_explode.rs strings_explode.ps strings_explode.r, []⟩ : Ks strings_explode.R) (retK strings_explode.rs strings_explode.ps strings_explode.r) =
  (mkK x1 x1 16 (loopEv [0, 1, 6, 7] (fun s K => ev Y4 s (⟨retK strings_explode.rs strings_explode.ps strings_explode.r, [(0, (strings_explode.H2 n X2))]⟩ : Ks strings_explode.R) K) n [(0, some ⟨.str, x0⟩), (1, some ⟨.int .i64, x1⟩), (6, some ⟨.slX .S .str, ((List.replicate (x1).toNat ([] : List Int)) : List (List Int))⟩), (7, some ⟨.int .i64, (0 : Int)⟩)]) : Option strings_explode.R) := by kernel_rfl
theorem strings_explode.s1 (n : Nat) (x0 : List Int) (x1 : Int) : ev (strings_explode.c1 n) [(0, some ⟨.str, x0⟩), (1, some ⟨.int .i64, x1⟩)] (⟨retK strings_explode.rs strings_explode.ps strings_explode.r, []⟩ : Ks strings_explode.R) (retK strings_explode.rs strings_explode.ps strings_explode.r) = strings_explode.j1 n x0 x1 := (strings_explode.w1 n x0 x1 (strings_explode.c2 n) (strings_explode.cb4 n)).trans (by simp only [strings_explode.j1, strings_explode.l4_ok n] <;> kernel_rfl)
noncomputable def strings_explode.H1 (n : Nat) (X : XC) : St → Option strings_explode.R := fun st => ghK [.keep [0, 1]] st fun st => ev X st (⟨retK strings_explode.rs strings_explode.ps strings_explode.r, []⟩ : Ks strings_explode.R) (retK strings_explode.rs strings_explode.ps strings_explode.r)
noncomputable abbrev strings_explode.K1 (n : Nat) : St → Option strings_explode.R := strings_explode.H1 n (strings_explode.c1 n)
noncomputable def strings_explode.d (n : Nat) (X1 : XC) : XC :=
  (.seq (.reg (.op (.mv 4 (.c ⟨.nil 0, ()⟩)) none <| .nil)) <|
  (.seq (.reg (.op (.mv 10 (.t 0)) none <| .op (.call (some 11) (unicode_utf8_RuneCountInString.sp n) [.v (.t 10)]) none <| .op (.mv 5 (.t 11)) none <| .nil)) <|
  (.seq (.aft (.seq (.reg (.op (.mv 12 (.t 1)) none <| .op (.bin 13 .lss (.t 12) (.c ⟨.int .i64, ((0 : Int) : Int)⟩)) none <| .op (.mv 14 (.t 13)) none <| .grp 14 false (.op (.mv 15 (.t 1)) (some ([1, 14, 15], [15])) <| .op (.mv 16 (.t 5)) (some ([5, 14, 16], [16])) <| .op (.bin 17 .gtr (.t 15) (.t 16)) (some ([14, 15, 16, 17], [17])) <| .nil) 17 18 [15, 16, 17] <| .nil)) <|
  (.cond (.t 18)
  (.reg (.op (.mv 19 (.t 5)) none <| .op (.mv 1 (.t 19)) none <| .nil))
  .skip)) [.keep [0, 1]]) X1)))
noncomputable abbrev strings_explode.c (n : Nat) : XC := strings_explode.d n (strings_explode.c1 n)
noncomputable def strings_explode.f (n : Nat) (a0 : List Int) (a1 : Int) : Option (List (List Int)) :=
  (unicode_utf8_RuneCountInString.f n a0).bind fun r1 => (bif (decide (a1 < (0 : Int))) then some true else (some (decide (r1 < a1)))).bind fun g2 =>
  bif g2 then (strings_explode.j1 n a0 r1)
  else (strings_explode.j1 n a0 a1)
theorem strings_explode.w (n : Nat) (a0 : List Int) (a1 : Int) (X1 : XC) : evFn (strings_explode.d n X1) strings_explode.rs strings_explode.ps strings_explode.r (a0, a1, ()) =
  ((unicode_utf8_RuneCountInString.f n a0).bind fun r1 => (bif (decide (a1 < (0 : Int))) then some true else (some (decide (r1 < a1)))).bind fun g2 =>
  bif g2 then (ev X1 [(0, some ⟨.str, a0⟩), (1, some ⟨.int .i64, r1⟩)] (⟨retK strings_explode.rs strings_explode.ps strings_explode.r, []⟩ : Ks strings_explode.R) (retK strings_explode.rs strings_explode.ps strings_explode.r))
  else (ev X1 [(0, some ⟨.str, a0⟩), (1, some ⟨.int .i64, a1⟩)] (⟨retK strings_explode.rs strings_explode.ps strings_explode.r, []⟩ : Ks strings_explode.R) (retK strings_explode.rs strings_explode.ps strings_explode.r)) : Option strings_explode.R) := by kernel_rfl
theorem strings_explode.ok (n : Nat) (a0 : List Int) (a1 : Int) : evFn (strings_explode.c n) strings_explode.rs strings_explode.ps strings_explode.r (a0, a1, ()) = strings_explode.f n a0 a1 := (strings_explode.w n a0 a1 (strings_explode.c1 n)).trans (by simp only [strings_explode.f, strings_explode.s1 n] <;> kernel_rfl)
noncomputable def strings_explode.sp (n : Nat) : FSpec := { f := 34, ps := strings_explode.ps, r := strings_explode.r, run := fun x => strings_explode.f n x.1 x.2.1 }
theorem strings_explode.calls (n : Nat) : (strings_explode.c n).calls = [unicode_utf8_RuneCountInString.sp n, unicode_utf8_DecodeRuneInString.sp n] := by kernel_rfl
theorem strings_explode.fits (n : Nat) : fnB tab hd Tryd.f34 (strings_explode.c n) strings_explode.rs (strings_explode.sp n).ps (strings_explode.sp n).r = true := by kernel_rfl
theorem strings_explode.sound (n : Nat) : Sound Tryd.prog (strings_explode.sp n) := by
  refine fnB_sound tabOk eqFacts mixed (fn := Tryd.f34) (c := strings_explode.c n) (rs := strings_explode.rs) (by kernel_rfl) ?_ (strings_explode.fits n) ?_
  · rw [strings_explode.calls]
    intro s hs
    simp only [List.mem_cons, List.not_mem_nil, or_false] at hs
    rcases hs with rfl | rfl
    · exact unicode_utf8_RuneCountInString.meets n
    · exact unicode_utf8_DecodeRuneInString.meets n
  · rintro ⟨a0, a1, ⟨⟩⟩ y h
    exact (strings_explode.ok n a0 a1).trans h
theorem strings_explode.meets (n : Nat) : Meets Tryd.prog (strings_explode.sp n) := (strings_explode.sound n).meets
/-! internal/bytealg.CountString: by the model -/
noncomputable def internal_bytealg_CountString.f (n : Nat) (a0 : List Int) (a1 : Int) : Option Int := some (cntV a0 a1)
noncomputable def internal_bytealg_CountString.sp (n : Nat) : FSpec := cntSp 46
theorem internal_bytealg_CountString.meets (n : Nat) : Meets Tryd.prog (internal_bytealg_CountString.sp n) := cnt_meets (fn := Tryd.f46) (by kernel_rfl) (by kernel_rfl) (by kernel_rfl) (by kernel_rfl) (by kernel_rfl)
/-! strings.Index -/
abbrev strings_Index.ps : List (Ty × Bool) := [(.str, false), (.str, false)]
abbrev strings_Index.r : Ty := .int .i64
abbrev strings_Index.rs : List RV := [.t 4]
abbrev strings_Index.R : Type := (rtOf strings_Index.ps strings_Index.r).den
noncomputable def strings_Index.d (n : Nat) : XC :=
  (.seq (.reg (.op (.mv 4 (.c ⟨.int .i64, ((0 : Int) : Int)⟩)) none <| .nil)) <|
  (.seq (.reg (.op (.mv 5 (.t 0)) none <| .op (.mv 6 (.t 1)) none <| .op (.call (some 7) (internal_stringslite_Index.sp n) [.v (.t 5), .v (.t 6)]) none <| .op (.mv 4 (.t 7)) none <| .nil)) <|
  .ret))
noncomputable abbrev strings_Index.c (n : Nat) : XC := strings_Index.d n
noncomputable def strings_Index.f (n : Nat) (a0 : List Int) (a1 : List Int) : Option Int :=
  (internal_stringslite_Index.f n a0 a1).bind fun r1 => some r1
theorem strings_Index.ok (n : Nat) (a0 : List Int) (a1 : List Int) : evFn (strings_Index.c n) strings_Index.rs strings_Index.ps strings_Index.r (a0, a1, ()) = strings_Index.f n a0 a1 := by kernel_rfl
noncomputable def strings_Index.sp (n : Nat) : FSpec := { f := 36, ps := strings_Index.ps, r := strings_Index.r, run := fun x => strings_Index.f n x.1 x.2.1 }
theorem strings_Index.calls (n : Nat) : (strings_Index.c n).calls = [internal_stringslite_Index.sp n] := by kernel_rfl
theorem strings_Index.fits (n : Nat) : fnB tab hd Tryd.f36 (strings_Index.c n) strings_Index.rs (strings_Index.sp n).ps (strings_Index.sp n).r = true := by kernel_rfl
theorem strings_Index.sound (n : Nat) : Sound Tryd.prog (strings_Index.sp n) := by
  refine fnB_sound tabOk eqFacts mixed (fn := Tryd.f36) (c := strings_Index.c n) (rs := strings_Index.rs) (by kernel_rfl) ?_ (strings_Index.fits n) ?_
  · rw [strings_Index.calls]
    intro s hs
    simp only [List.mem_cons, List.not_mem_nil, or_false] at hs
    rcases hs with rfl
    · exact internal_stringslite_Index.meets n
  · rintro ⟨a0, a1, ⟨⟩⟩ y h
    exact (strings_Index.ok n a0 a1).trans h
theorem strings_Index.meets (n : Nat) : Meets Tryd.prog (strings_Index.sp n) := (strings_Index.sound n).meets
/-! strings.Count -/
abbrev strings_Count.ps : List (Ty × Bool) := [(.str, false), (.str, false)]
abbrev strings_Count.r : Ty := .int .i64
abbrev strings_Count.rs : List RV := [.t 4]
abbrev strings_Count.R : Type := (rtOf strings_Count.ps strings_Count.r).den
noncomputable def strings_Count.Kb1 (Kr1 : St → Option strings_Count.R) : St → Option strings_Count.R := fun st => ghK [.keep [0, 1, 5]] st Kr1
noncomputable def strings_Count.db1 (n : Nat) : XC :=
  (.aft (.block 1 (.seq (.reg (.op (.mv 20 (.t 0)) none <| .op (.mv 21 (.t 1)) none <| .op (.call (some 22) (strings_Index.sp n) [.v (.t 20), .v (.t 21)]) none <| .op (.mv 6 (.t 22)) none <| .nil)) <|
  (.seq (.seq (.reg (.op (.mv 23 (.t 6)) none <| .op (.bin 24 .eql (.t 23) (.c ⟨.int .i64, ((-1 : Int) : Int)⟩)) none <| .nil)) <|
  (.cond (.t 24)
  (.seq (.reg (.op (.mv 25 (.t 5)) none <| .op (.mv 4 (.t 25)) none <| .nil)) <|
  .ret)
  .skip)) <|
  (.seq (.reg (.op (.mv 26 (.t 5)) none <| .op (.bin 27 .add (.t 26) (.c ⟨.int .i64, ((1 : Int) : Int)⟩)) none <| .op (.mv 5 (.t 27)) none <| .nil)) <|
  (.reg (.op (.mv 28 (.t 0)) none <| .op (.mv 29 (.t 6)) none <| .op (.mv 30 (.t 1)) none <| .op (.len 31 (.t 30) true) none <| .op (.bin 32 .add (.t 29) (.t 31)) none <| .op (.slc 33 (.t 28) (some (.t 32)) none none 0) none <| .op (.mv 0 (.t 33)) none <| .nil)))))) [.keep [0, 1, 5]])
noncomputable abbrev strings_Count.cb1 (n : Nat) : XC := strings_Count.db1 n
noncomputable def strings_Count.l1 (n : Nat) : Nat → (List Int) → (List Int) → Int → Option Int
  | 0, _, _, _ => none
  | k + 1, x0, x1, x5 =>
  (strings_Index.f n x0 x1).bind fun r1 => bif (decide (r1 = (-1 : Int))) then (some x5)
  else (sliceK (IntKind.i64.wrap (r1 + (x1.length : Int))) (x0.length : Int) x0.length (strings_Count.l1 n k (cut x0 (IntKind.i64.wrap (r1 + (x1.length : Int))) (x0.length : Int)) x1 (IntKind.i64.wrap (x5 + (1 : Int)))))
theorem strings_Count.wb1 (n : Nat) (Kr1 : St → Option strings_Count.R) (x0 : List Int) (x1 : List Int) (x5 : Int) : ev (strings_Count.db1 n) (keepSt [(0, some ⟨.str, x0⟩), (1, some ⟨.str, x1⟩), (5, some ⟨.int .i64, x5⟩)] [0, 1, 5]) (⟨retK strings_Count.rs strings_Count.ps strings_Count.r, [(0, (retK strings_Count.rs strings_Count.ps strings_Count.r))]⟩ : Ks strings_Count.R) Kr1 =
  ((strings_Index.f n x0 x1).bind fun r1 => bif (decide (r1 = (-1 : Int))) then (some x5)
  else (sliceK (IntKind.i64.wrap (r1 + (x1.length : Int))) (x0.length : Int) x0.length (Kr1 [(0, some ⟨.str, ((cut x0 (IntKind.i64.wrap (r1 + (x1.length : Int))) (x0.length : Int)) : List Int)⟩), (1, some ⟨.str, x1⟩), (5, some ⟨.int .i64, (IntKind.i64.wrap (x5 + (1 : Int)))⟩)])) : Option strings_Count.R) := by kernel_rfl
theorem strings_Count.l1_ok (n : Nat) (k : Nat) : ∀ (x0 : List Int) (x1 : List Int) (x5 : Int), loopEv [0, 1, 5] (fun s K => ev (strings_Count.cb1 n) s (⟨retK strings_Count.rs strings_Count.ps strings_Count.r, [(0, (retK strings_Count.rs strings_Count.ps strings_Count.r))]⟩ : Ks strings_Count.R) K) k [(0, some ⟨.str, x0⟩), (1, some ⟨.str, x1⟩), (5, some ⟨.int .i64, x5⟩)] = strings_Count.l1 n k x0 x1 x5 := by
  induction k with
  | zero => intros; rfl
  | succ k ih =>
    intro x0 x1 x5
    exact (strings_Count.wb1 n (fun st => loopEv [0, 1, 5] (fun s K => ev (strings_Count.cb1 n) s (⟨retK strings_Count.rs strings_Count.ps strings_Count.r, [(0, (retK strings_Count.rs strings_Count.ps strings_Count.r))]⟩ : Ks strings_Count.R) K) k st) x0 x1 x5).trans (by simp only [strings_Count.l1, ih] <;> kernel_rfl)
noncomputable def strings_Count.d (n : Nat) (Y1 : XC) : XC :=
  (.seq (.reg (.op (.mv 4 (.c ⟨.int .i64, ((0 : Int) : Int)⟩)) none <| .nil)) <|
  (.seq (.seq (.reg (.op (.mv 7 (.t 1)) none <| .op (.len 8 (.t 7) true) none <| .op (.bin 9 .eql (.t 8) (.c ⟨.int .i64, ((0 : Int) : Int)⟩)) none <| .nil)) <|
  (.cond (.t 9)
  (.seq (.reg (.op (.mv 10 (.t 0)) none <| .op (.call (some 11) (unicode_utf8_RuneCountInString.sp n) [.v (.t 10)]) none <| .op (.bin 12 .add (.t 11) (.c ⟨.int .i64, ((1 : Int) : Int)⟩)) none <| .op (.mv 4 (.t 12)) none <| .nil)) <|
  .ret)
  .skip)) <|
  (.seq (.seq (.reg (.op (.mv 13 (.t 1)) none <| .op (.len 14 (.t 13) true) none <| .op (.bin 15 .eql (.t 14) (.c ⟨.int .i64, ((1 : Int) : Int)⟩)) none <| .nil)) <|
  (.cond (.t 15)
  (.seq (.reg (.op (.mv 16 (.t 0)) none <| .op (.mv 17 (.t 1)) none <| .op (.idx 18 (.t 17) (.c ⟨.int .i64, ((0 : Int) : Int)⟩) 1 false 0) none <| .op (.call (some 19) (internal_bytealg_CountString.sp n) [.v (.t 16), .v (.t 18)]) none <| .op (.mv 4 (.t 19)) none <| .nil)) <|
  .ret)
  .skip)) <|
  (.seq (.reg (.op (.mv 5 (.c ⟨.int .i64, ((0 : Int) : Int)⟩)) none <| .nil)) <|
  (.block 0 (.pre [.keep [0, 1, 5]] (.loop n [0, 1, 5] Y1)))))))
noncomputable abbrev strings_Count.c (n : Nat) : XC := strings_Count.d n (strings_Count.cb1 n)
noncomputable def strings_Count.f (n : Nat) (a0 : List Int) (a1 : List Int) : Option Int :=
  bif (decide ((a1.length : Int) = (0 : Int))) then ((unicode_utf8_RuneCountInString.f n a0).bind fun r1 => some (IntKind.i64.wrap (r1 + (1 : Int))))
  else (bif (decide ((a1.length : Int) = (1 : Int))) then (idxK a1 (0 : Int) fun e2 => (internal_bytealg_CountString.f n a0 e2).bind fun r3 => some r3)
  else (strings_Count.l1 n n a0 a1 (0 : Int)))
theorem strings_Count.w (n : Nat) (a0 : List Int) (a1 : List Int) (Y1 : XC) : evFn (strings_Count.d n Y1) strings_Count.rs strings_Count.ps strings_Count.r (a0, a1, ()) =
  (bif (decide ((a1.length : Int) = (0 : Int))) then ((unicode_utf8_RuneCountInString.f n a0).bind fun r1 => some (IntKind.i64.wrap (r1 + (1 : Int))))
  else (bif (decide ((a1.length : Int) = (1 : Int))) then (idxK a1 (0 : Int) fun e2 => (internal_bytealg_CountString.f n a0 e2).bind fun r3 => some r3)
  else (loopEv [0, 1, 5] (fun s K => ev Y1 s (⟨retK strings_Count.rs strings_Count.ps strings_Count.r, [(0, (retK strings_Count.rs strings_Count.ps strings_Count.r))]⟩ : Ks strings_Count.R) K) n [(0, some ⟨.str, a0⟩), (1, some ⟨.str, a1⟩), (5, some ⟨.int .i64, (0 : Int)⟩)])) : Option strings_Count.R) := by kernel_rfl
theorem strings_Count.ok (n : Nat) (a0 : List Int) (a1 : List Int) : evFn (strings_Count.c n) strings_Count.rs strings_Count.ps strings_Count.r (a0, a1, ()) = strings_Count.f n a0 a1 := (strings_Count.w n a0 a1 (strings_Count.cb1 n)).trans (by simp only [strings_Count.f, strings_Count.l1_ok n] <;> kernel_rfl)
noncomputable def strings_Count.sp (n : Nat) : FSpec := { f := 35, ps := strings_Count.ps, r := strings_Count.r, run := fun x => strings_Count.f n x.1 x.2.1 }
theorem strings_Count.calls (n : Nat) : (strings_Count.c n).calls = [unicode_utf8_RuneCountInString.sp n, internal_bytealg_CountString.sp n, strings_Index.sp n] := by kernel_rfl
theorem strings_Count.fits (n : Nat) : fnB tab hd Tryd.f35 (strings_Count.c n) strings_Count.rs (strings_Count.sp n).ps (strings_Count.sp n).r = true := by kernel_rfl
theorem strings_Count.sound (n : Nat) : Sound Tryd.prog (strings_Count.sp n) := by
  refine fnB_sound tabOk eqFacts mixed (fn := Tryd.f35) (c := strings_Count.c n) (rs := strings_Count.rs) (by kernel_rfl) ?_ (strings_Count.fits n) ?_
  · rw [strings_Count.calls]
    intro s hs
    simp only [List.mem_cons, List.not_mem_nil, or_false] at hs
    rcases hs with rfl | rfl | rfl
    · exact unicode_utf8_RuneCountInString.meets n
    · exact internal_bytealg_CountString.meets n
    · exact strings_Index.meets n
  · rintro ⟨a0, a1, ⟨⟩⟩ y h
    exact (strings_Count.ok n a0 a1).trans h
theorem strings_Count.meets (n : Nat) : Meets Tryd.prog (strings_Count.sp n) := (strings_Count.sound n).meets
/-! strings.genSplit -/
abbrev strings_genSplit.ps : List (Ty × Bool) := [(.str, false), (.str, false), (.int .i64, false), (.int .i64, false)]
abbrev strings_genSplit.r : Ty := .slX .U .str
abbrev strings_genSplit.rs : List RV := [.t 8]
abbrev strings_genSplit.R : Type := (rtOf strings_genSplit.ps strings_genSplit.r).den
noncomputable def strings_genSplit.d2 (n : Nat) : XC :=
  (.seq (.reg (.op (.als 58 9) none <| .op (.mv 59 (.t 10)) none <| .op (.mv 60 (.t 0)) none <| .op (.idxE 61 (.t 58) (.t 59) 1) none <| .op (.stE 61 (.t 60) 1) none <| .nil)) <|
  (.seq (.reg (.op (.take 62 9) none <| .op (.mv 63 (.t 10)) none <| .op (.bin 64 .add (.t 63) (.c ⟨.int .i64, ((1 : Int) : Int)⟩)) none <| .op (.slcX 65 62 (.t 64) 1) none <| .op (.take 8 65) none <| .nil)) <|
  .ret))
noncomputable abbrev strings_genSplit.c2 (n : Nat) : XC := strings_genSplit.d2 n
noncomputable def strings_genSplit.j2 (n : Nat) (x0 : List Int) (x9 : List (List Int)) (x10 : Int) : Option (List (List Int)) :=
  inK' x10 x9.length (idxK x9 x10 fun e1 => sliceK 0 (IntKind.i64.wrap (x10 + (1 : Int))) (lset x9 x10 x0).length (some ((lset x9 x10 x0).take ((IntKind.i64.wrap (x10 + (1 : Int)))).toNat)))
theorem strings_genSplit.s2 (n : Nat) (x0 : List Int) (x9 : List (List Int)) (x10 : Int) : ev (strings_genSplit.c2 n) [(0, some ⟨.str, x0⟩), (9, some ⟨.slX .S .str, x9⟩), (10, some ⟨.int .i64, x10⟩)] (⟨retK strings_genSplit.rs strings_genSplit.ps strings_genSplit.r, []⟩ : Ks strings_genSplit.R) (retK strings_genSplit.rs strings_genSplit.ps strings_genSplit.r) = strings_genSplit.j2 n x0 x9 x10 := by kernel_rfl
noncomputable def strings_genSplit.H2 (n : Nat) (X : XC) : St → Option strings_genSplit.R := fun st => ghK [.keep [0, 9, 10]] st fun st => ev X st (⟨retK strings_genSplit.rs strings_genSplit.ps strings_genSplit.r, []⟩ : Ks strings_genSplit.R) (retK strings_genSplit.rs strings_genSplit.ps strings_genSplit.r)
noncomputable abbrev strings_genSplit.K2 (n : Nat) : St → Option strings_genSplit.R := strings_genSplit.H2 n (strings_genSplit.c2 n)
noncomputable def strings_genSplit.Kb3 (Kr3 : St → Option strings_genSplit.R) : St → Option strings_genSplit.R := fun st => ghK [.keep [0, 1, 2, 3, 9, 10]] st Kr3
noncomputable def strings_genSplit.db3 (n : Nat) : XC :=
  (.aft (.seq (.seq (.reg (.op (.mv 34 (.t 10)) none <| .op (.mv 35 (.t 3)) none <| .op (.bin 36 .lss (.t 34) (.t 35)) none <| .nil)) <|
  (.cond (.t 36)
  .skip
  (.pre [.keep [0, 9, 10]] (.exit 0)))) <|
  (.block 1 (.seq (.reg (.op (.mv 37 (.t 0)) none <| .op (.mv 38 (.t 1)) none <| .op (.call (some 39) (strings_Index.sp n) [.v (.t 37), .v (.t 38)]) none <| .op (.mv 11 (.t 39)) none <| .nil)) <|
  (.seq (.seq (.reg (.op (.mv 40 (.t 11)) none <| .op (.bin 41 .lss (.t 40) (.c ⟨.int .i64, ((0 : Int) : Int)⟩)) none <| .nil)) <|
  (.cond (.t 41)
  (.pre [.keep [0, 9, 10]] (.exit 0))
  .skip)) <|
  (.seq (.reg (.op (.als 42 9) none <| .op (.mv 43 (.t 10)) none <| .op (.mv 44 (.t 0)) none <| .op (.mv 45 (.t 11)) none <| .op (.mv 46 (.t 2)) none <| .op (.bin 47 .add (.t 45) (.t 46)) none <| .op (.slc 48 (.t 44) none (some (.t 47)) none 0) none <| .op (.idxE 49 (.t 42) (.t 43) 1) none <| .op (.stE 49 (.t 48) 1) none <| .nil)) <|
  (.seq (.pre [.keep [0, 1, 2, 3, 9, 10, 11]] (.reg (.op (.mv 50 (.t 0)) none <| .op (.mv 51 (.t 11)) none <| .op (.mv 52 (.t 1)) none <| .op (.len 53 (.t 52) true) none <| .op (.bin 54 .add (.t 51) (.t 53)) none <| .op (.slc 55 (.t 50) (some (.t 54)) none none 0) none <| .op (.mv 0 (.t 55)) none <| .nil))) <|
  (.reg (.op (.mv 56 (.t 10)) none <| .op (.bin 57 .add (.t 56) (.c ⟨.int .i64, ((1 : Int) : Int)⟩)) none <| .op (.mv 10 (.t 57)) none <| .nil)))))))) [.keep [0, 1, 2, 3, 9, 10]])
noncomputable abbrev strings_genSplit.cb3 (n : Nat) : XC := strings_genSplit.db3 n
theorem strings_genSplit.q2_0_r (n : Nat) (X : XC) (x0 : List Int) (x9 : List (List Int)) (x10 : Int) : strings_genSplit.H2 n X [(0, some ⟨.str, x0⟩), (9, some ⟨.slX .S .str, x9⟩), (10, some ⟨.int .i64, x10⟩)] = (ev X [(0, some ⟨.str, x0⟩), (9, some ⟨.slX .S .str, x9⟩), (10, some ⟨.int .i64, x10⟩)] (⟨retK strings_genSplit.rs strings_genSplit.ps strings_genSplit.r, []⟩ : Ks strings_genSplit.R) (retK strings_genSplit.rs strings_genSplit.ps strings_genSplit.r) : Option strings_genSplit.R) := by kernel_rfl
theorem strings_genSplit.q2_0 (n : Nat) (x0 : List Int) (x9 : List (List Int)) (x10 : Int) : strings_genSplit.K2 n [(0, some ⟨.str, x0⟩), (9, some ⟨.slX .S .str, x9⟩), (10, some ⟨.int .i64, x10⟩)] = strings_genSplit.j2 n x0 x9 x10 := (strings_genSplit.q2_0_r n (strings_genSplit.c2 n) x0 x9 x10).trans (strings_genSplit.s2 n x0 x9 x10)
noncomputable def strings_genSplit.l3 (n : Nat) : Nat → (List Int) → (List Int) → Int → Int → (List (List Int)) → Int → Option (List (List Int))
  | 0, _, _, _, _, _, _ => none
  | k + 1, x0, x1, x2, x3, x9, x10 =>
  bif (decide (x10 < x3)) then ((strings_Index.f n x0 x1).bind fun r1 => bif (decide (r1 < (0 : Int))) then (strings_genSplit.j2 n x0 x9 x10)
  else (sliceK 0 (IntKind.i64.wrap (r1 + x2)) x0.length (inK' x10 x9.length (idxK x9 x10 fun e2 => sliceK (IntKind.i64.wrap (r1 + (x1.length : Int))) (x0.length : Int) x0.length (strings_genSplit.l3 n k (cut x0 (IntKind.i64.wrap (r1 + (x1.length : Int))) (x0.length : Int)) x1 x2 x3 (lset x9 x10 (cut x0 0 (IntKind.i64.wrap (r1 + x2)))) (IntKind.i64.wrap (x10 + (1 : Int))))))))
  else (strings_genSplit.j2 n x0 x9 x10)
theorem strings_genSplit.wb3 (n : Nat) (Kr3 : St → Option strings_genSplit.R) (x0 : List Int) (x1 : List Int) (x2 : Int) (x3 : Int) (x9 : List (List Int)) (x10 : Int) (K2 : St → Option strings_genSplit.R) : ev (strings_genSplit.db3 n) (keepSt [(0, some ⟨.str, x0⟩), (1, some ⟨.str, x1⟩), (2, some ⟨.int .i64, x2⟩), (3, some ⟨.int .i64, x3⟩), (9, some ⟨.slX .S .str, x9⟩), (10, some ⟨.int .i64, x10⟩)] [0, 1, 2, 3, 9, 10]) (⟨retK strings_genSplit.rs strings_genSplit.ps strings_genSplit.r, [(0, K2)]⟩ : Ks strings_genSplit.R) Kr3 =
  (bif (decide (x10 < x3)) then ((strings_Index.f n x0 x1).bind fun r1 => bif (decide (r1 < (0 : Int))) then (K2 [(0, some ⟨.str, x0⟩), (9, some ⟨.slX .S .str, x9⟩), (10, some ⟨.int .i64, x10⟩)])
  else (sliceK 0 (IntKind.i64.wrap (r1 + x2)) x0.length (inK' x10 x9.length (idxK x9 x10 fun e2 => sliceK (IntKind.i64.wrap (r1 + (x1.length : Int))) (x0.length : Int) x0.length (Kr3 [(0, some ⟨.str, ((cut x0 (IntKind.i64.wrap (r1 + (x1.length : Int))) (x0.length : Int)) : List Int)⟩), (1, some ⟨.str, x1⟩), (2, some ⟨.int .i64, x2⟩), (3, some ⟨.int .i64, x3⟩), (9, some ⟨.slX .S .str, ((lset x9 x10 (cut x0 0 (IntKind.i64.wrap (r1 + x2)))) : List (List Int))⟩), (10, some ⟨.int .i64, (IntKind.i64.wrap (x10 + (1 : Int)))⟩)])))))
  else (K2 [(0, some ⟨.str, x0⟩), (9, some ⟨.slX .S .str, x9⟩), (10, some ⟨.int .i64, x10⟩)]) : Option strings_genSplit.R) := by kernel_rfl
theorem strings_genSplit.l3_ok (n : Nat) (k : Nat) : ∀ (x0 : List Int) (x1 : List Int) (x2 : Int) (x3 : Int) (x9 : List (List Int)) (x10 : Int), loopEv [0, 1, 2, 3, 9, 10] (fun s K => ev (strings_genSplit.cb3 n) s (⟨retK strings_genSplit.rs strings_genSplit.ps strings_genSplit.r, [(0, (strings_genSplit.K2 n))]⟩ : Ks strings_genSplit.R) K) k [(0, some ⟨.str, x0⟩), (1, some ⟨.str, x1⟩), (2, some ⟨.int .i64, x2⟩), (3, some ⟨.int .i64, x3⟩), (9, some ⟨.slX .S .str, x9⟩), (10, some ⟨.int .i64, x10⟩)] = strings_genSplit.l3 n k x0 x1 x2 x3 x9 x10 := by
  induction k with
  | zero => intros; rfl
  | succ k ih =>
    intro x0 x1 x2 x3 x9 x10
    exact (strings_genSplit.wb3 n (fun st => loopEv [0, 1, 2, 3, 9, 10] (fun s K => ev (strings_genSplit.cb3 n) s (⟨retK strings_genSplit.rs strings_genSplit.ps strings_genSplit.r, [(0, (strings_genSplit.K2 n))]⟩ : Ks strings_genSplit.R) K) k st) x0 x1 x2 x3 x9 x10 (strings_genSplit.K2 n)).trans (by simp only [strings_genSplit.l3, strings_genSplit.q2_0 n, ih] <;> kernel_rfl)
noncomputable def strings_genSplit.d1 (n : Nat) (X2 Y3 : XC) : XC :=
  (.seq (.reg (.op (.mv 25 (.t 3)) none <| .op (.mv 26 (.t 0)) none <| .op (.len 27 (.t 26) true) none <| .op (.bin 28 .add (.t 27) (.c ⟨.int .i64, ((1 : Int) : Int)⟩)) none <| .op (.mnx 29 false (.t 25) (.t 28)) none <| .op (.mv 3 (.t 29)) none <| .nil)) <|
  (.seq (.reg (.op (.mv 30 (.t 3)) none <| .op (.mk 31 ⟨.str, (([] : List Int) : List Int)⟩ (.t 30) (.t 30) 16) none <| .op (.take 9 31) none <| .nil)) <|
  (.seq (.reg (.op (.mv 32 (.t 3)) none <| .op (.bin 33 .sub (.t 32) (.c ⟨.int .i64, ((1 : Int) : Int)⟩)) none <| .op (.mv 3 (.t 33)) none <| .nil)) <|
  (.seq (.reg (.op (.mv 10 (.c ⟨.int .i64, ((0 : Int) : Int)⟩)) none <| .nil)) <|
  (.seq (.aft (.block 0 (.pre [.keep [0, 1, 2, 3, 9, 10]] (.loop n [0, 1, 2, 3, 9, 10] Y3))) [.keep [0, 9, 10]]) X2)))))
noncomputable abbrev strings_genSplit.c1 (n : Nat) : XC := strings_genSplit.d1 n (strings_genSplit.c2 n) (strings_genSplit.cb3 n)
noncomputable def strings_genSplit.j1 (n : Nat) (x0 : List Int) (x1 : List Int) (x2 : Int) (x3 : Int) : Option (List (List Int)) :=
  mkK (imin x3 (IntKind.i64.wrap ((x0.length : Int) + (1 : Int)))) (imin x3 (IntKind.i64.wrap ((x0.length : Int) + (1 : Int)))) 16 (strings_genSplit.l3 n n x0 x1 x2 (IntKind.i64.wrap ((imin x3 (IntKind.i64.wrap ((x0.length : Int) + (1 : Int)))) - (1 : Int))) (List.replicate ((imin x3 (IntKind.i64.wrap ((x0.length : Int) + (1 : Int))))).toNat ([] : List Int)) (0 : Int))
theorem strings_genSplit.w1 (n : Nat) (x0 : List Int) (x1 : List Int) (x2 : Int) (x3 : Int) (X2 Y3 : XC) : ev (strings_genSplit.d1 n X2 Y3) [(0, some ⟨.str, x0⟩), (1, some ⟨.str, x1⟩), (2, some ⟨.int .i64, x2⟩), (3, some ⟨.int .i64, x3⟩)] (⟨retK strings_genSplit.rs strings_genSplit.ps strings_genSplit.r, []⟩ : Ks strings_genSplit.R) (retK strings_genSplit.rs strings_genSplit.ps strings_genSplit.r) =
  (mkK (imin x3 (IntKind.i64.wrap ((x0.length : Int) + (1 : Int)))) (imin x3 (IntKind.i64.wrap ((x0.length : Int) + (1 : Int)))) 16 (loopEv [0, 1, 2, 3, 9, 10] (fun s K => ev Y3 s (⟨retK strings_genSplit.rs strings_genSplit.ps strings_genSplit.r, [(0, (strings_genSplit.H2 n X2))]⟩ : Ks strings_genSplit.R) K) n [(0, some ⟨.str, x0⟩), (1, some ⟨.str, x1⟩), (2, some ⟨.int .i64, x2⟩), (3, some ⟨.int .i64, (IntKind.i64.wrap ((imin x3 (IntKind.i64.wrap ((x0.length : Int) + (1 : Int)))) - (1 : Int)))⟩), (9, some ⟨.slX .S .str, ((List.replicate ((imin x3 (IntKind.i64.wrap ((x0.length : Int) + (1 : Int))))).toNat ([] : List Int)) : List (List Int))⟩), (10, some ⟨.int .i64, (0 : Int)⟩)]) : Option strings_genSplit.R) := by kernel_rfl
theorem strings_genSplit.s1 (n : Nat) (x0 : List Int) (x1 : List Int) (x2 : Int) (x3 : Int) : ev (strings_genSplit.c1 n) [(0, some ⟨.str, x0⟩), (1, some ⟨.str, x1⟩), (2, some ⟨.int .i64, x2⟩), (3, some ⟨.int .i64, x3⟩)] (⟨retK strings_genSplit.rs strings_genSplit.ps strings_genSplit.r, []⟩ : Ks strings_genSplit.R) (retK strings_genSplit.rs strings_genSplit.ps strings_genSplit.r) = strings_genSplit.j1 n x0 x1 x2 x3 := (strings_genSplit.w1 n x0 x1 x2 x3 (strings_genSplit.c2 n) (strings_genSplit.cb3 n)).trans (by simp only [strings_genSplit.j1, strings_genSplit.l3_ok n] <;> kernel_rfl)
noncomputable def strings_genSplit.H1 (n : Nat) (X : XC) : St → Option strings_genSplit.R := fun st => ghK [.keep [0, 1, 2, 3]] st fun st => ev X st (⟨retK strings_genSplit.rs strings_genSplit.ps strings_genSplit.r, []⟩ : Ks strings_genSplit.R) (retK strings_genSplit.rs strings_genSplit.ps strings_genSplit.r)
noncomputable abbrev strings_genSplit.K1 (n : Nat) : St → Option strings_genSplit.R := strings_genSplit.H1 n (strings_genSplit.c1 n)
noncomputable def strings_genSplit.d (n : Nat) (X1 : XC) : XC :=
  (.seq (.reg (.op (.mv 8 (.c ⟨.nil 0, ()⟩)) none <| .nil)) <|
  (.seq (.seq (.reg (.op (.mv 12 (.t 3)) none <| .op (.bin 13 .eql (.t 12) (.c ⟨.int .i64, ((0 : Int) : Int)⟩)) none <| .nil)) <|
  (.cond (.t 13)
  (.seq (.reg (.op (.mv 8 (.c ⟨.nil 0, ()⟩)) none <| .nil)) <|
  .ret)
  .skip)) <|
  (.seq (.seq (.reg (.op (.mv 14 (.t 1)) none <| .op (.bin 15 .eql (.t 14) (.c ⟨.str, (([] : List Int) : List Int)⟩)) none <| .nil)) <|
  (.cond (.t 15)
  (.seq (.reg (.op (.mv 16 (.t 0)) none <| .op (.mv 17 (.t 3)) none <| .op (.call (some 18) (strings_explode.sp n) [.v (.t 16), .v (.t 17)]) none <| .op (.take 8 18) none <| .nil)) <|
  .ret)
  .skip)) <|
  (.seq (.aft (.seq (.reg (.op (.mv 19 (.t 3)) none <| .op (.bin 20 .lss (.t 19) (.c ⟨.int .i64, ((0 : Int) : Int)⟩)) none <| .nil)) <|
  (.cond (.t 20)
  (.reg (.op (.mv 21 (.t 0)) none <| .op (.mv 22 (.t 1)) none <| .op (.call (some 23) (strings_Count.sp n) [.v (.t 21), .v (.t 22)]) none <| .op (.bin 24 .add (.t 23) (.c ⟨.int .i64, ((1 : Int) : Int)⟩)) none <| .op (.mv 3 (.t 24)) none <| .nil))
  .skip)) [.keep [0, 1, 2, 3]]) X1))))
noncomputable abbrev strings_genSplit.c (n : Nat) : XC := strings_genSplit.d n (strings_genSplit.c1 n)
noncomputable def strings_genSplit.f (n : Nat) (a0 : List Int) (a1 : List Int) (a2 : Int) (a3 : Int) : Option (List (List Int)) :=
  bif (decide (a3 = (0 : Int))) then (some ([] : List (List Int)))
  else (bif (decide (a1 = ([] : List Int))) then ((strings_explode.f n a0 a3).bind fun r1 => some r1)
  else (bif (decide (a3 < (0 : Int))) then ((strings_Count.f n a0 a1).bind fun r2 => strings_genSplit.j1 n a0 a1 a2 (IntKind.i64.wrap (r2 + (1 : Int))))
  else (strings_genSplit.j1 n a0 a1 a2 a3)))
theorem strings_genSplit.w (n : Nat) (a0 : List Int) (a1 : List Int) (a2 : Int) (a3 : Int) (X1 : XC) : evFn (strings_genSplit.d n X1) strings_genSplit.rs strings_genSplit.ps strings_genSplit.r (a0, a1, a2, a3, ()) =
  (bif (decide (a3 = (0 : Int))) then (some ([] : List (List Int)))
  else (bif (decide (a1 = ([] : List Int))) then ((strings_explode.f n a0 a3).bind fun r1 => some r1)
  else (bif (decide (a3 < (0 : Int))) then ((strings_Count.f n a0 a1).bind fun r2 => ev X1 [(0, some ⟨.str, a0⟩), (1, some ⟨.str, a1⟩), (2, some ⟨.int .i64, a2⟩), (3, some ⟨.int .i64, (IntKind.i64.wrap (r2 + (1 : Int)))⟩)] (⟨retK strings_genSplit.rs strings_genSplit.ps strings_genSplit.r, []⟩ : Ks strings_genSplit.R) (retK strings_genSplit.rs strings_genSplit.ps strings_genSplit.r))
  else (ev X1 [(0, some ⟨.str, a0⟩), (1, some ⟨.str, a1⟩), (2, some ⟨.int .i64, a2⟩), (3, some ⟨.int .i64, a3⟩)] (⟨retK strings_genSplit.rs strings_genSplit.ps strings_genSplit.r, []⟩ : Ks strings_genSplit.R) (retK strings_genSplit.rs strings_genSplit.ps strings_genSplit.r)))) : Option strings_genSplit.R) := by kernel_rfl
theorem strings_genSplit.ok (n : Nat) (a0 : List Int) (a1 : List Int) (a2 : Int) (a3 : Int) : evFn (strings_genSplit.c n) strings_genSplit.rs strings_genSplit.ps strings_genSplit.r (a0, a1, a2, a3, ()) = strings_genSplit.f n a0 a1 a2 a3 := (strings_genSplit.w n a0 a1 a2 a3 (strings_genSplit.c1 n)).trans (by simp only [strings_genSplit.f, strings_genSplit.s1 n] <;> kernel_rfl)
noncomputable def strings_genSplit.sp (n : Nat) : FSpec := { f := 30, ps := strings_genSplit.ps, r := strings_genSplit.r, run := fun x => strings_genSplit.f n x.1 x.2.1 x.2.2.1 x.2.2.2.1 }
theorem strings_genSplit.calls (n : Nat) : (strings_genSplit.c n).calls = [strings_explode.sp n, strings_Count.sp n, strings_Index.sp n] := by kernel_rfl
theorem strings_genSplit.fits (n : Nat) : fnB tab hd Tryd.f30 (strings_genSplit.c n) strings_genSplit.rs (strings_genSplit.sp n).ps (strings_genSplit.sp n).r = true := by kernel_rfl
theorem strings_genSplit.sound (n : Nat) : Sound Tryd.prog (strings_genSplit.sp n) := by
  refine fnB_sound tabOk eqFacts mixed (fn := Tryd.f30) (c := strings_genSplit.c n) (rs := strings_genSplit.rs) (by kernel_rfl) ?_ (strings_genSplit.fits n) ?_
  · rw [strings_genSplit.calls]
    intro s hs
    simp only [List.mem_cons, List.not_mem_nil, or_false] at hs
    rcases hs with rfl | rfl | rfl
    · exact strings_explode.meets n
    · exact strings_Count.meets n
    · exact strings_Index.meets n
  · rintro ⟨a0, a1, a2, a3, ⟨⟩⟩ y h
    exact (strings_genSplit.ok n a0 a1 a2 a3).trans h
theorem strings_genSplit.meets (n : Nat) : Meets Tryd.prog (strings_genSplit.sp n) := (strings_genSplit.sound n).meets
/-! strings.Split -/
abbrev strings_Split.ps : List (Ty × Bool) := [(.str, false), (.str, false)]
abbrev strings_Split.r : Ty := .slX .U .str
abbrev strings_Split.rs : List RV := [.t 4]
abbrev strings_Split.R : Type := (rtOf strings_Split.ps strings_Split.r).den
noncomputable def strings_Split.d (n : Nat) : XC :=
  (.seq (.reg (.op (.mv 4 (.c ⟨.nil 0, ()⟩)) none <| .nil)) <|
  (.seq (.reg (.op (.mv 5 (.t 0)) none <| .op (.mv 6 (.t 1)) none <| .op (.call (some 7) (strings_genSplit.sp n) [.v (.t 5), .v (.t 6), .v (.c ⟨.int .i64, ((0 : Int) : Int)⟩), .v (.c ⟨.int .i64, ((-1 : Int) : Int)⟩)]) none <| .op (.take 4 7) none <| .nil)) <|
  .ret))
noncomputable abbrev strings_Split.c (n : Nat) : XC := strings_Split.d n
noncomputable def strings_Split.f (n : Nat) (a0 : List Int) (a1 : List Int) : Option (List (List Int)) :=
  (strings_genSplit.f n a0 a1 (0 : Int) (-1 : Int)).bind fun r1 => some r1
theorem strings_Split.ok (n : Nat) (a0 : List Int) (a1 : List Int) : evFn (strings_Split.c n) strings_Split.rs strings_Split.ps strings_Split.r (a0, a1, ()) = strings_Split.f n a0 a1 := by kernel_rfl
noncomputable def strings_Split.sp (n : Nat) : FSpec := { f := 23, ps := strings_Split.ps, r := strings_Split.r, run := fun x => strings_Split.f n x.1 x.2.1 }
theorem strings_Split.calls (n : Nat) : (strings_Split.c n).calls = [strings_genSplit.sp n] := by kernel_rfl
theorem strings_Split.fits (n : Nat) : fnB tab hd Tryd.f23 (strings_Split.c n) strings_Split.rs (strings_Split.sp n).ps (strings_Split.sp n).r = true := by kernel_rfl
theorem strings_Split.sound (n : Nat) : Sound Tryd.prog (strings_Split.sp n) := by
  refine fnB_sound tabOk eqFacts mixed (fn := Tryd.f23) (c := strings_Split.c n) (rs := strings_Split.rs) (by kernel_rfl) ?_ (strings_Split.fits n) ?_
  · rw [strings_Split.calls]
    intro s hs
    simp only [List.mem_cons, List.not_mem_nil, or_false] at hs
    rcases hs with rfl
    · exact strings_genSplit.meets n
  · rintro ⟨a0, a1, ⟨⟩⟩ y h
    exact (strings_Split.ok n a0 a1).trans h
theorem strings_Split.meets (n : Nat) : Meets Tryd.prog (strings_Split.sp n) := (strings_Split.sound n).meets
/-! backwater/backwaterref02.Name -/
abbrev r02_Name.ps : List (Ty × Bool) := [(.str, false)]
abbrev r02_Name.r : Ty := .bool
abbrev r02_Name.rs : List RV := [.t 2]
abbrev r02_Name.R : Type := (rtOf r02_Name.ps r02_Name.r).den
noncomputable def r02_Name.d1 (n : Nat) : XC :=
  (.seq (.reg (.op (.mv 41 (.t 0)) none <| .op (.len 42 (.t 41) true) none <| .op (.bin 43 .geq (.t 42) (.c ⟨.int .i64, ((1 : Int) : Int)⟩)) none <| .op (.mv 44 (.t 43)) none <| .grp 44 true (.op (.mv 45 (.t 0)) (some ([0, 44, 45], [45])) <| .op (.len 46 (.t 45) true) (some ([44, 45, 46], [46])) <| .op (.bin 47 .leq (.t 46) (.c ⟨.int .i64, ((12 : Int) : Int)⟩)) (some ([44, 46, 47], [47])) <| .nil) 47 48 [45, 46, 47] <| .op (.mv 49 (.t 48)) none <| .grp 49 true (.op (.mv 50 (.t 0)) (some ([0, 49, 50], [50])) <| .op (.bin 51 .neq (.t 50) (.c ⟨.str, (([46] : List Int) : List Int)⟩)) (some ([49, 50, 51], [51])) <| .nil) 51 52 [50, 51] <| .op (.mv 53 (.t 52)) none <| .grp 53 true (.op (.mv 54 (.t 0)) (some ([0, 53, 54], [54])) <| .op (.bin 55 .neq (.t 54) (.c ⟨.str, (([46, 46] : List Int) : List Int)⟩)) (some ([53, 54, 55], [55])) <| .nil) 55 56 [54, 55] <| .op (.mv 2 (.t 56)) none <| .nil)) <|
  .ret)
noncomputable abbrev r02_Name.c1 (n : Nat) : XC := r02_Name.d1 n
noncomputable def r02_Name.j1 (n : Nat) (x0 : List Int) : Option Bool :=
  (bif (decide ((1 : Int) ≤ (x0.length : Int))) then (some (decide ((x0.length : Int) ≤ (12 : Int)))) else some false).bind fun g1 =>
  (bif g1 then (some (!decide (x0 = ([46] : List Int)))) else some false).bind fun g2 =>
  (bif g2 then (some (!decide (x0 = ([46, 46] : List Int)))) else some false).bind fun g3 =>
  some g3
theorem r02_Name.s1 (n : Nat) (x0 : List Int) : ev (r02_Name.c1 n) [(0, some ⟨.str, x0⟩)] (⟨retK r02_Name.rs r02_Name.ps r02_Name.r, []⟩ : Ks r02_Name.R) (retK r02_Name.rs r02_Name.ps r02_Name.r) = r02_Name.j1 n x0 := by kernel_rfl
noncomputable def r02_Name.H1 (n : Nat) (X : XC) : St → Option r02_Name.R := fun st => ghK [.keep [0]] st fun st => ev X st (⟨retK r02_Name.rs r02_Name.ps r02_Name.r, []⟩ : Ks r02_Name.R) (retK r02_Name.rs r02_Name.ps r02_Name.r)
noncomputable abbrev r02_Name.K1 (n : Nat) : St → Option r02_Name.R := r02_Name.H1 n (r02_Name.c1 n)
noncomputable def r02_Name.Kb2 (Kr2 : St → Option r02_Name.R) : St → Option r02_Name.R := fun st => ghK [.keep [0, 3]] st Kr2
noncomputable def r02_Name.d3 (n : Nat) : XC :=
  (.aft (.reg (.op (.mv 9 (.t 3)) none <| .op (.bin 10 .add (.t 9) (.c ⟨.int .i64, ((1 : Int) : Int)⟩)) none <| .op (.mv 3 (.t 10)) none <| .nil)) [.keep [0, 3]])
noncomputable abbrev r02_Name.c3 (n : Nat) : XC := r02_Name.d3 n
theorem r02_Name.qb2_0 (Kr2 : St → Option r02_Name.R) (kr2 : (List Int) → Int → Option Bool) (hK2 : ∀ (x0 : List Int) (x3 : Int), Kr2 [(0, some ⟨.str, x0⟩), (3, some ⟨.int .i64, x3⟩)] = kr2 x0 x3) (x0 : List Int) (x3 : Int) : r02_Name.Kb2 Kr2 [(0, some ⟨.str, x0⟩), (3, some ⟨.int .i64, x3⟩)] = kr2 x0 x3 := (by kernel_rfl : _ = Kr2 [(0, some ⟨.str, x0⟩), (3, some ⟨.int .i64, x3⟩)]).trans (hK2 x0 x3)
noncomputable def r02_Name.j3 (n : Nat) (kr2 : (List Int) → Int → Option Bool) (x0 : List Int) (x3 : Int) : Option Bool :=
  kr2 x0 (IntKind.i64.wrap (x3 + (1 : Int)))
theorem r02_Name.w3 (n : Nat) (Kr2 : St → Option r02_Name.R) (x0 : List Int) (x3 : Int) (K1 : St → Option r02_Name.R) (Kb2 : St → Option r02_Name.R) : ev (r02_Name.d3 n) [(0, some ⟨.str, x0⟩), (3, some ⟨.int .i64, x3⟩)] (⟨retK r02_Name.rs r02_Name.ps r02_Name.r, [(0, K1)]⟩ : Ks r02_Name.R) Kb2 =
  (Kb2 [(0, some ⟨.str, x0⟩), (3, some ⟨.int .i64, (IntKind.i64.wrap (x3 + (1 : Int)))⟩)] : Option r02_Name.R) := by kernel_rfl
theorem r02_Name.s3 (n : Nat) (Kr2 : St → Option r02_Name.R) (kr2 : (List Int) → Int → Option Bool) (hK2 : ∀ (x0 : List Int) (x3 : Int), Kr2 [(0, some ⟨.str, x0⟩), (3, some ⟨.int .i64, x3⟩)] = kr2 x0 x3) (x0 : List Int) (x3 : Int) : ev (r02_Name.c3 n) [(0, some ⟨.str, x0⟩), (3, some ⟨.int .i64, x3⟩)] (⟨retK r02_Name.rs r02_Name.ps r02_Name.r, [(0, (r02_Name.K1 n))]⟩ : Ks r02_Name.R) (r02_Name.Kb2 Kr2) = r02_Name.j3 n kr2 x0 x3 := (r02_Name.w3 n Kr2 x0 x3 (r02_Name.K1 n) (r02_Name.Kb2 Kr2)).trans (by simp only [r02_Name.j3, r02_Name.qb2_0 Kr2 kr2 hK2] <;> kernel_rfl)
noncomputable def r02_Name.H3 (n : Nat) (K1 : St → Option r02_Name.R) (Kb2 : St → Option r02_Name.R) (X : XC) : St → Option r02_Name.R := fun st => ghK [.keep [0, 3]] st fun st => ev X st (⟨retK r02_Name.rs r02_Name.ps r02_Name.r, [(0, K1)]⟩ : Ks r02_Name.R) Kb2
noncomputable abbrev r02_Name.K3 (n : Nat) (Kr2 : St → Option r02_Name.R) : St → Option r02_Name.R := r02_Name.H3 n (r02_Name.K1 n) (r02_Name.Kb2 Kr2) (r02_Name.c3 n)
noncomputable def r02_Name.db2 (n : Nat) (X3 : XC) : XC :=
  (.aft (.seq (.seq (.reg (.op (.mv 5 (.t 3)) none <| .op (.mv 6 (.t 0)) none <| .op (.len 7 (.t 6) true) none <| .op (.bin 8 .lss (.t 5) (.t 7)) none <| .nil)) <|
  (.cond (.t 8)
  .skip
  (.pre [.keep [0]] (.exit 0)))) <|
  (.seq (.aft (.block 1 (.seq (.reg (.op (.mv 11 (.t 0)) none <| .op (.mv 12 (.t 3)) none <| .op (.idx 13 (.t 11) (.t 12) 1 false 0) none <| .op (.mv 4 (.t 13)) none <| .nil)) <|
  (.seq (.reg (.op (.mv 14 (.t 4)) none <| .op (.bin 15 .geq (.t 14) (.c ⟨.int .u8, ((97 : Int) : Int)⟩)) none <| .op (.mv 16 (.t 15)) none <| .grp 16 true (.op (.mv 17 (.t 4)) (some ([4, 16, 17], [17])) <| .op (.bin 18 .leq (.t 17) (.c ⟨.int .u8, ((122 : Int) : Int)⟩)) (some ([16, 17, 18], [18])) <| .nil) 18 19 [17, 18] <| .op (.mv 20 (.t 19)) none <| .grp 20 false (.op (.mv 21 (.t 4)) (some ([4, 20, 21], [21])) <| .op (.bin 22 .geq (.t 21) (.c ⟨.int .u8, ((48 : Int) : Int)⟩)) (some ([20, 21, 22], [22])) <| .op (.mv 23 (.t 22)) (some ([20, 22, 23], [23])) <| .grp 23 true (.op (.mv 24 (.t 4)) (some ([4, 23, 24], [24])) <| .op (.bin 25 .leq (.t 24) (.c ⟨.int .u8, ((57 : Int) : Int)⟩)) (some ([23, 24, 25], [25])) <| .nil) 25 26 [24, 25] <| .nil) 26 27 [21, 22, 23, 24, 25, 26] <| .op (.mv 28 (.t 27)) none <| .grp 28 false (.op (.mv 29 (.t 4)) (some ([4, 28, 29], [29])) <| .op (.bin 30 .eql (.t 29) (.c ⟨.int .u8, ((46 : Int) : Int)⟩)) (some ([28, 29, 30], [30])) <| .nil) 30 31 [29, 30] <| .op (.mv 32 (.t 31)) none <| .grp 32 false (.op (.mv 33 (.t 4)) (some ([4, 32, 33], [33])) <| .op (.bin 34 .eql (.t 33) (.c ⟨.int .u8, ((45 : Int) : Int)⟩)) (some ([32, 33, 34], [34])) <| .nil) 34 35 [33, 34] <| .op (.mv 36 (.t 35)) none <| .grp 36 false (.op (.mv 37 (.t 4)) (some ([4, 36, 37], [37])) <| .op (.bin 38 .eql (.t 37) (.c ⟨.int .u8, ((95 : Int) : Int)⟩)) (some ([36, 37, 38], [38])) <| .nil) 38 39 [37, 38] <| .op (.un 40 .not (.t 39)) none <| .nil)) <|
  (.cond (.t 40)
  (.seq (.pre [.keep []] (.reg (.op (.mv 2 (.c ⟨.bool, (false : Bool)⟩)) none <| .nil))) <|
  .ret)
  .skip)))) [.keep [0, 3]]) X3)) [.keep [0, 3]])
noncomputable abbrev r02_Name.cb2 (n : Nat) : XC := r02_Name.db2 n (r02_Name.c3 n)
theorem r02_Name.q1_0_r (n : Nat) (X : XC) (x0 : List Int) : r02_Name.H1 n X [(0, some ⟨.str, x0⟩)] = (ev X [(0, some ⟨.str, x0⟩)] (⟨retK r02_Name.rs r02_Name.ps r02_Name.r, []⟩ : Ks r02_Name.R) (retK r02_Name.rs r02_Name.ps r02_Name.r) : Option r02_Name.R) := by kernel_rfl
theorem r02_Name.q1_0 (n : Nat) (x0 : List Int) : r02_Name.K1 n [(0, some ⟨.str, x0⟩)] = r02_Name.j1 n x0 := (r02_Name.q1_0_r n (r02_Name.c1 n) x0).trans (r02_Name.s1 n x0)
noncomputable def r02_Name.l2 (n : Nat) : Nat → (List Int) → Int → Option Bool
  | 0, _, _ => none
  | k + 1, x0, x3 =>
  bif (decide (x3 < (x0.length : Int))) then (idxK x0 x3 fun e1 => (bif (decide ((97 : Int) ≤ e1)) then (some (decide (e1 ≤ (122 : Int)))) else some false).bind fun g2 =>
  (bif g2 then some true else ((bif (decide ((48 : Int) ≤ e1)) then (some (decide (e1 ≤ (57 : Int)))) else some false).bind fun g4 =>
  some g4)).bind fun g3 =>
  (bif g3 then some true else (some (decide (e1 = (46 : Int))))).bind fun g5 =>
  (bif g5 then some true else (some (decide (e1 = (45 : Int))))).bind fun g6 =>
  (bif g6 then some true else (some (decide (e1 = (95 : Int))))).bind fun g7 =>
  bif (!g7) then (some false)
  else (r02_Name.j3 n (r02_Name.l2 n k) x0 x3))
  else (r02_Name.j1 n x0)
theorem r02_Name.wb2 (n : Nat) (Kr2 : St → Option r02_Name.R) (x0 : List Int) (x3 : Int) (K1 : St → Option r02_Name.R) (X3 : XC) : ev (r02_Name.db2 n X3) (keepSt [(0, some ⟨.str, x0⟩), (3, some ⟨.int .i64, x3⟩)] [0, 3]) (⟨retK r02_Name.rs r02_Name.ps r02_Name.r, [(0, K1)]⟩ : Ks r02_Name.R) Kr2 =
  (bif (decide (x3 < (x0.length : Int))) then (idxK x0 x3 fun e1 => (bif (decide ((97 : Int) ≤ e1)) then (some (decide (e1 ≤ (122 : Int)))) else some false).bind fun g2 =>
  (bif g2 then some true else ((bif (decide ((48 : Int) ≤ e1)) then (some (decide (e1 ≤ (57 : Int)))) else some false).bind fun g4 =>
  some g4)).bind fun g3 =>
  (bif g3 then some true else (some (decide (e1 = (46 : Int))))).bind fun g5 =>
  (bif g5 then some true else (some (decide (e1 = (45 : Int))))).bind fun g6 =>
  (bif g6 then some true else (some (decide (e1 = (95 : Int))))).bind fun g7 =>
  bif (!g7) then (some false)
  else (ev X3 [(0, some ⟨.str, x0⟩), (3, some ⟨.int .i64, x3⟩)] (⟨retK r02_Name.rs r02_Name.ps r02_Name.r, [(0, K1)]⟩ : Ks r02_Name.R) (r02_Name.Kb2 Kr2)))
  else (K1 [(0, some ⟨.str, x0⟩)]) : Option r02_Name.R) := by kernel_rfl
theorem r02_Name.l2_ok (n : Nat) (k : Nat) : ∀ (x0 : List Int) (x3 : Int), loopEv [0, 3] (fun s K => ev (r02_Name.cb2 n) s (⟨retK r02_Name.rs r02_Name.ps r02_Name.r, [(0, (r02_Name.K1 n))]⟩ : Ks r02_Name.R) K) k [(0, some ⟨.str, x0⟩), (3, some ⟨.int .i64, x3⟩)] = r02_Name.l2 n k x0 x3 := by
  induction k with
  | zero => intros; rfl
  | succ k ih =>
    intro x0 x3
    exact (r02_Name.wb2 n (fun st => loopEv [0, 3] (fun s K => ev (r02_Name.cb2 n) s (⟨retK r02_Name.rs r02_Name.ps r02_Name.r, [(0, (r02_Name.K1 n))]⟩ : Ks r02_Name.R) K) k st) x0 x3 (r02_Name.K1 n) (r02_Name.c3 n)).trans (by simp only [r02_Name.l2, r02_Name.s3 n (fun st => loopEv [0, 3] (fun s K => ev (r02_Name.cb2 n) s (⟨retK r02_Name.rs r02_Name.ps r02_Name.r, [(0, (r02_Name.K1 n))]⟩ : Ks r02_Name.R) K) k st) (r02_Name.l2 n k) ih, r02_Name.q1_0 n] <;> kernel_rfl)
noncomputable def r02_Name.d (n : Nat) (X1 Y2 : XC) : XC :=
  (.seq (.reg (.op (.mv 2 (.c ⟨.bool, (false : Bool)⟩)) none <| .nil)) <|
  (.seq (.aft (.seq (.reg (.op (.mv 3 (.c ⟨.int .i64, ((0 : Int) : Int)⟩)) none <| .nil)) <|
  (.block 0 (.pre [.keep [0, 3]] (.loop n [0, 3] Y2)))) [.keep [0]]) X1))
noncomputable abbrev r02_Name.c (n : Nat) : XC := r02_Name.d n (r02_Name.c1 n) (r02_Name.cb2 n)
noncomputable def r02_Name.f (n : Nat) (a0 : List Int) : Option Bool :=
  r02_Name.l2 n n a0 (0 : Int)
theorem r02_Name.w (n : Nat) (a0 : List Int) (X1 Y2 : XC) : evFn (r02_Name.d n X1 Y2) r02_Name.rs r02_Name.ps r02_Name.r (a0, ()) =
  (loopEv [0, 3] (fun s K => ev Y2 s (⟨retK r02_Name.rs r02_Name.ps r02_Name.r, [(0, (r02_Name.H1 n X1))]⟩ : Ks r02_Name.R) K) n [(0, some ⟨.str, a0⟩), (3, some ⟨.int .i64, (0 : Int)⟩)] : Option r02_Name.R) := by kernel_rfl
theorem r02_Name.ok (n : Nat) (a0 : List Int) : evFn (r02_Name.c n) r02_Name.rs r02_Name.ps r02_Name.r (a0, ()) = r02_Name.f n a0 := (r02_Name.w n a0 (r02_Name.c1 n) (r02_Name.cb2 n)).trans (by simp only [r02_Name.f, r02_Name.l2_ok n] <;> kernel_rfl)
noncomputable def r02_Name.sp (n : Nat) : FSpec := { f := 11, ps := r02_Name.ps, r := r02_Name.r, run := fun x => r02_Name.f n x.1 }
theorem r02_Name.calls (n : Nat) : (r02_Name.c n).calls = [] := by kernel_rfl
theorem r02_Name.fits (n : Nat) : fnB tab hd Tryd.f11 (r02_Name.c n) r02_Name.rs (r02_Name.sp n).ps (r02_Name.sp n).r = true := by kernel_rfl
theorem r02_Name.sound (n : Nat) : Sound Tryd.prog (r02_Name.sp n) := by
  refine fnB_sound tabOk eqFacts mixed (fn := Tryd.f11) (c := r02_Name.c n) (rs := r02_Name.rs) (by kernel_rfl) ?_ (r02_Name.fits n) ?_
  · rw [r02_Name.calls]
    intro s hs; cases hs
  · rintro ⟨a0, ⟨⟩⟩ y h
    exact (r02_Name.ok n a0).trans h
theorem r02_Name.meets (n : Nat) : Meets Tryd.prog (r02_Name.sp n) := (r02_Name.sound n).meets
/-! backwater/backwaterref02.Split -/
abbrev r02_Split.ps : List (Ty × Bool) := [(.str, false)]
abbrev r02_Split.r : Ty := .tup (.pair (.slX .U .str) (.pair (.int .i64) .unit))
abbrev r02_Split.rs : List RV := [.t 2, .t 3]
abbrev r02_Split.R : Type := (rtOf r02_Split.ps r02_Split.r).den
noncomputable def r02_Split.d1 (n : Nat) : XC :=
  (.seq (.reg (.op (.take 59 4) none <| .op (.take 2 59) none <| .op (.mv 3 (.c ⟨.int .i64, ((0 : Int) : Int)⟩)) none <| .nil)) <|
  .ret)
noncomputable abbrev r02_Split.c1 (n : Nat) : XC := r02_Split.d1 n
noncomputable def r02_Split.j1 (n : Nat) (x4 : List (List Int)) : Option ((List (List Int)) × Int × Unit) :=
  some (x4, (0 : Int), ())
theorem r02_Split.s1 (n : Nat) (x4 : List (List Int)) : ev (r02_Split.c1 n) [(4, some ⟨.slX .U .str, x4⟩)] (⟨retK r02_Split.rs r02_Split.ps r02_Split.r, []⟩ : Ks r02_Split.R) (retK r02_Split.rs r02_Split.ps r02_Split.r) = r02_Split.j1 n x4 := by kernel_rfl
noncomputable def r02_Split.H1 (n : Nat) (X : XC) : St → Option r02_Split.R := fun st => ghK [.keep [4]] st fun st => ev X st (⟨retK r02_Split.rs r02_Split.ps r02_Split.r, []⟩ : Ks r02_Split.R) (retK r02_Split.rs r02_Split.ps r02_Split.r)
noncomputable abbrev r02_Split.K1 (n : Nat) : St → Option r02_Split.R := r02_Split.H1 n (r02_Split.c1 n)
noncomputable def r02_Split.Kb2 (Kr2 : St → Option r02_Split.R) : St → Option r02_Split.R := fun st => ghK [.keep [4, 5, 6]] st Kr2
noncomputable def r02_Split.d3 (n : Nat) : XC :=
  (.aft (.reg (.op (.mv 28 (.t 6)) none <| .op (.bin 29 .add (.t 28) (.c ⟨.int .i64, ((1 : Int) : Int)⟩)) none <| .op (.mv 6 (.t 29)) none <| .nil)) [.keep [4, 5, 6]])
noncomputable abbrev r02_Split.c3 (n : Nat) : XC := r02_Split.d3 n
theorem r02_Split.qb2_0 (Kr2 : St → Option r02_Split.R) (kr2 : (List (List Int)) → (List (List Int)) → Int → Option ((List (List Int)) × Int × Unit)) (hK2 : ∀ (x4 : List (List Int)) (x5 : List (List Int)) (x6 : Int), Kr2 [(4, some ⟨.slX .U .str, x4⟩), (5, some ⟨.slX .U .str, x5⟩), (6, some ⟨.int .i64, x6⟩)] = kr2 x4 x5 x6) (x4 : List (List Int)) (x5 : List (List Int)) (x6 : Int) : r02_Split.Kb2 Kr2 [(4, some ⟨.slX .U .str, x4⟩), (5, some ⟨.slX .U .str, x5⟩), (6, some ⟨.int .i64, x6⟩)] = kr2 x4 x5 x6 := (by kernel_rfl : _ = Kr2 [(4, some ⟨.slX .U .str, x4⟩), (5, some ⟨.slX .U .str, x5⟩), (6, some ⟨.int .i64, x6⟩)]).trans (hK2 x4 x5 x6)
noncomputable def r02_Split.j3 (n : Nat) (kr2 : (List (List Int)) → (List (List Int)) → Int → Option ((List (List Int)) × Int × Unit)) (x4 : List (List Int)) (x5 : List (List Int)) (x6 : Int) : Option ((List (List Int)) × Int × Unit) :=
  kr2 x4 x5 (IntKind.i64.wrap (x6 + (1 : Int)))
theorem r02_Split.w3 (n : Nat) (Kr2 : St → Option r02_Split.R) (x4 : List (List Int)) (x5 : List (List Int)) (x6 : Int) (K1 : St → Option r02_Split.R) (Kb2 : St → Option r02_Split.R) : ev (r02_Split.d3 n) [(4, some ⟨.slX .U .str, x4⟩), (5, some ⟨.slX .U .str, x5⟩), (6, some ⟨.int .i64, x6⟩)] (⟨retK r02_Split.rs r02_Split.ps r02_Split.r, [(0, K1)]⟩ : Ks r02_Split.R) Kb2 =
  (Kb2 [(4, some ⟨.slX .U .str, x4⟩), (5, some ⟨.slX .U .str, x5⟩), (6, some ⟨.int .i64, (IntKind.i64.wrap (x6 + (1 : Int)))⟩)] : Option r02_Split.R) := by kernel_rfl
theorem r02_Split.s3 (n : Nat) (Kr2 : St → Option r02_Split.R) (kr2 : (List (List Int)) → (List (List Int)) → Int → Option ((List (List Int)) × Int × Unit)) (hK2 : ∀ (x4 : List (List Int)) (x5 : List (List Int)) (x6 : Int), Kr2 [(4, some ⟨.slX .U .str, x4⟩), (5, some ⟨.slX .U .str, x5⟩), (6, some ⟨.int .i64, x6⟩)] = kr2 x4 x5 x6) (x4 : List (List Int)) (x5 : List (List Int)) (x6 : Int) : ev (r02_Split.c3 n) [(4, some ⟨.slX .U .str, x4⟩), (5, some ⟨.slX .U .str, x5⟩), (6, some ⟨.int .i64, x6⟩)] (⟨retK r02_Split.rs r02_Split.ps r02_Split.r, [(0, (r02_Split.K1 n))]⟩ : Ks r02_Split.R) (r02_Split.Kb2 Kr2) = r02_Split.j3 n kr2 x4 x5 x6 := (r02_Split.w3 n Kr2 x4 x5 x6 (r02_Split.K1 n) (r02_Split.Kb2 Kr2)).trans (by simp only [r02_Split.j3, r02_Split.qb2_0 Kr2 kr2 hK2] <;> kernel_rfl)
noncomputable def r02_Split.H3 (n : Nat) (K1 : St → Option r02_Split.R) (Kb2 : St → Option r02_Split.R) (X : XC) : St → Option r02_Split.R := fun st => ghK [.keep [4, 5, 6]] st fun st => ev X st (⟨retK r02_Split.rs r02_Split.ps r02_Split.r, [(0, K1)]⟩ : Ks r02_Split.R) Kb2
noncomputable abbrev r02_Split.K3 (n : Nat) (Kr2 : St → Option r02_Split.R) : St → Option r02_Split.R := r02_Split.H3 n (r02_Split.K1 n) (r02_Split.Kb2 Kr2) (r02_Split.c3 n)
noncomputable def r02_Split.db2 (n : Nat) (X3 : XC) : XC :=
  (.aft (.seq (.seq (.reg (.op (.mv 24 (.t 6)) none <| .op (.bor 25 5) none <| .op (.len 26 (.t 25) false) none <| .op (.bin 27 .lss (.t 24) (.t 26)) none <| .nil)) <|
  (.cond (.t 27)
  .skip
  (.pre [.keep [4]] (.exit 0)))) <|
  (.seq (.aft (.block 1 (.seq (.reg (.op (.bor 30 5) none <| .op (.mv 31 (.t 6)) none <| .op (.idxA 32 (.t 30) (.t 31) 1 0) none <| .op (.ld 33 32 1 false) none <| .op (.mv 7 (.t 33)) none <| .nil)) <|
  (.block 2 (.seq (.reg (.op (.mv 35 (.t 7)) none <| .op (.bin 36 .eql (.t 35) (.c ⟨.str, (([] : List Int) : List Int)⟩)) none <| .op (.mv 37 (.t 36)) none <| .grp 37 false (.op (.mv 38 (.t 7)) (some ([7, 37, 38], [38])) <| .op (.bin 39 .eql (.t 38) (.c ⟨.str, (([46] : List Int) : List Int)⟩)) (some ([37, 38, 39], [39])) <| .nil) 39 40 [38, 39] <| .op (.mv 34 (.t 40)) none <| .nil)) <|
  (.cond (.t 34)
  .skip
  (.seq (.pre [.keep [4, 5, 6, 7]] (.reg (.op (.mv 42 (.t 7)) none <| .op (.bin 43 .eql (.t 42) (.c ⟨.str, (([46, 46] : List Int) : List Int)⟩)) none <| .op (.mv 41 (.t 43)) none <| .nil))) <|
  (.cond (.t 41)
  (.seq (.reg (.op (.bor 44 4) none <| .op (.len 45 (.t 44) false) none <| .op (.bin 46 .gtr (.t 45) (.c ⟨.int .i64, ((0 : Int) : Int)⟩)) none <| .nil)) <|
  (.cond (.t 46)
  (.reg (.op (.take 47 4) none <| .op (.bor 48 4) none <| .op (.len 49 (.t 48) false) none <| .op (.bin 50 .sub (.t 49) (.c ⟨.int .i64, ((1 : Int) : Int)⟩)) none <| .op (.slcX 51 47 (.t 50) 1) none <| .op (.take 4 51) none <| .nil))
  .skip))
  (.seq (.reg (.op (.mv 53 (.t 7)) none <| .op (.call (some 54) (r02_Name.sp n) [.v (.t 53)]) none <| .op (.mv 52 (.t 54)) none <| .nil)) <|
  (.cond (.t 52)
  (.reg (.op (.take 55 4) none <| .op (.mv 56 (.t 7)) none <| .op (.bsl 57 .str [(.t 56)]) none <| .op (.app 58 55 (.t 57) 16 1) none <| .op (.take 4 58) none <| .nil))
  (.seq (.reg (.op (.mv 2 (.c ⟨.nil 0, ()⟩)) none <| .op (.mv 3 (.c ⟨.int .i64, ((3 : Int) : Int)⟩)) none <| .nil)) <|
  .ret)))))))))) [.keep [4, 5, 6]]) X3)) [.keep [4, 5, 6]])
noncomputable abbrev r02_Split.cb2 (n : Nat) : XC := r02_Split.db2 n (r02_Split.c3 n)
theorem r02_Split.q1_0_r (n : Nat) (X : XC) (x4 : List (List Int)) : r02_Split.H1 n X [(4, some ⟨.slX .U .str, x4⟩)] = (ev X [(4, some ⟨.slX .U .str, x4⟩)] (⟨retK r02_Split.rs r02_Split.ps r02_Split.r, []⟩ : Ks r02_Split.R) (retK r02_Split.rs r02_Split.ps r02_Split.r) : Option r02_Split.R) := by kernel_rfl
theorem r02_Split.q1_0 (n : Nat) (x4 : List (List Int)) : r02_Split.K1 n [(4, some ⟨.slX .U .str, x4⟩)] = r02_Split.j1 n x4 := (r02_Split.q1_0_r n (r02_Split.c1 n) x4).trans (r02_Split.s1 n x4)
noncomputable def r02_Split.l2 (n : Nat) : Nat → (List (List Int)) → (List (List Int)) → Int → Option ((List (List Int)) × Int × Unit)
  | 0, _, _, _ => none
  | k + 1, x4, x5, x6 =>
  bif (decide (x6 < (x5.length : Int))) then (idxK x5 x6 fun e1 => (bif (decide (e1 = ([] : List Int))) then some true else (some (decide (e1 = ([46] : List Int))))).bind fun g2 =>
  bif g2 then (r02_Split.j3 n (r02_Split.l2 n k) x4 x5 x6)
  else (bif (decide (e1 = ([46, 46] : List Int))) then (bif (decide ((0 : Int) < (x4.length : Int))) then (sliceK 0 (IntKind.i64.wrap ((x4.length : Int) - (1 : Int))) x4.length (r02_Split.j3 n (r02_Split.l2 n k) (x4.take ((IntKind.i64.wrap ((x4.length : Int) - (1 : Int)))).toNat) x5 x6))
  else (r02_Split.j3 n (r02_Split.l2 n k) x4 x5 x6))
  else ((r02_Name.f n e1).bind fun r3 => bif r3 then (appK x4.length ([e1] : List (List Int)).length 16 (r02_Split.j3 n (r02_Split.l2 n k) (x4 ++ ([e1] : List (List Int))) x5 x6))
  else (some (([] : List (List Int)), (3 : Int), ())))))
  else (r02_Split.j1 n x4)
theorem r02_Split.wb2 (n : Nat) (Kr2 : St → Option r02_Split.R) (x4 : List (List Int)) (x5 : List (List Int)) (x6 : Int) (K1 : St → Option r02_Split.R) (X3 : XC) : ev (r02_Split.db2 n X3) (keepSt [(4, some ⟨.slX .U .str, x4⟩), (5, some ⟨.slX .U .str, x5⟩), (6, some ⟨.int .i64, x6⟩)] [4, 5, 6]) (⟨retK r02_Split.rs r02_Split.ps r02_Split.r, [(0, K1)]⟩ : Ks r02_Split.R) Kr2 =
  (bif (decide (x6 < (x5.length : Int))) then (idxK x5 x6 fun e1 => (bif (decide (e1 = ([] : List Int))) then some true else (some (decide (e1 = ([46] : List Int))))).bind fun g2 =>
  bif g2 then (ev X3 [(4, some ⟨.slX .U .str, x4⟩), (5, some ⟨.slX .U .str, x5⟩), (6, some ⟨.int .i64, x6⟩)] (⟨retK r02_Split.rs r02_Split.ps r02_Split.r, [(0, K1)]⟩ : Ks r02_Split.R) (r02_Split.Kb2 Kr2))
  else (bif (decide (e1 = ([46, 46] : List Int))) then (bif (decide ((0 : Int) < (x4.length : Int))) then (sliceK 0 (IntKind.i64.wrap ((x4.length : Int) - (1 : Int))) x4.length (ev X3 [(4, some ⟨.slX .U .str, ((x4.take ((IntKind.i64.wrap ((x4.length : Int) - (1 : Int)))).toNat) : List (List Int))⟩), (5, some ⟨.slX .U .str, x5⟩), (6, some ⟨.int .i64, x6⟩)] (⟨retK r02_Split.rs r02_Split.ps r02_Split.r, [(0, K1)]⟩ : Ks r02_Split.R) (r02_Split.Kb2 Kr2)))
  else (ev X3 [(4, some ⟨.slX .U .str, x4⟩), (5, some ⟨.slX .U .str, x5⟩), (6, some ⟨.int .i64, x6⟩)] (⟨retK r02_Split.rs r02_Split.ps r02_Split.r, [(0, K1)]⟩ : Ks r02_Split.R) (r02_Split.Kb2 Kr2)))
  else ((r02_Name.f n e1).bind fun r3 => bif r3 then (appK x4.length ([e1] : List (List Int)).length 16 (ev X3 [(4, some ⟨.slX .U .str, ((x4 ++ ([e1] : List (List Int))) : List (List Int))⟩), (5, some ⟨.slX .U .str, x5⟩), (6, some ⟨.int .i64, x6⟩)] (⟨retK r02_Split.rs r02_Split.ps r02_Split.r, [(0, K1)]⟩ : Ks r02_Split.R) (r02_Split.Kb2 Kr2)))
  else (some (([] : List (List Int)), (3 : Int), ())))))
  else (K1 [(4, some ⟨.slX .U .str, x4⟩)]) : Option r02_Split.R) := by kernel_rfl
theorem r02_Split.l2_ok (n : Nat) (k : Nat) : ∀ (x4 : List (List Int)) (x5 : List (List Int)) (x6 : Int), loopEv [4, 5, 6] (fun s K => ev (r02_Split.cb2 n) s (⟨retK r02_Split.rs r02_Split.ps r02_Split.r, [(0, (r02_Split.K1 n))]⟩ : Ks r02_Split.R) K) k [(4, some ⟨.slX .U .str, x4⟩), (5, some ⟨.slX .U .str, x5⟩), (6, some ⟨.int .i64, x6⟩)] = r02_Split.l2 n k x4 x5 x6 := by
  induction k with
  | zero => intros; rfl
  | succ k ih =>
    intro x4 x5 x6
    exact (r02_Split.wb2 n (fun st => loopEv [4, 5, 6] (fun s K => ev (r02_Split.cb2 n) s (⟨retK r02_Split.rs r02_Split.ps r02_Split.r, [(0, (r02_Split.K1 n))]⟩ : Ks r02_Split.R) K) k st) x4 x5 x6 (r02_Split.K1 n) (r02_Split.c3 n)).trans (by simp only [r02_Split.l2, r02_Split.s3 n (fun st => loopEv [4, 5, 6] (fun s K => ev (r02_Split.cb2 n) s (⟨retK r02_Split.rs r02_Split.ps r02_Split.r, [(0, (r02_Split.K1 n))]⟩ : Ks r02_Split.R) K) k st) (r02_Split.l2 n k) ih, r02_Split.q1_0 n] <;> kernel_rfl)
noncomputable def r02_Split.d (n : Nat) (X1 Y2 : XC) : XC :=
  (.seq (.reg (.op (.mv 2 (.c ⟨.nil 0, ()⟩)) none <| .op (.mv 3 (.c ⟨.int .i64, ((0 : Int) : Int)⟩)) none <| .nil)) <|
  (.seq (.seq (.reg (.op (.mv 8 (.t 0)) none <| .op (.len 9 (.t 8) true) none <| .op (.bin 10 .lss (.t 9) (.c ⟨.int .i64, ((1 : Int) : Int)⟩)) none <| .op (.mv 11 (.t 10)) none <| .grp 11 false (.op (.mv 12 (.t 0)) (some ([0, 11, 12], [12])) <| .op (.len 13 (.t 12) true) (some ([11, 12, 13], [13])) <| .op (.bin 14 .gtr (.t 13) (.c ⟨.int .i64, ((120 : Int) : Int)⟩)) (some ([11, 13, 14], [14])) <| .nil) 14 15 [12, 13, 14] <| .op (.mv 16 (.t 15)) none <| .grp 16 false (.op (.mv 17 (.t 0)) (some ([0, 16, 17], [17])) <| .op (.idx 18 (.t 17) (.c ⟨.int .i64, ((0 : Int) : Int)⟩) 1 false 0) (some ([16, 17, 18], [18])) <| .op (.bin 19 .neq (.t 18) (.c ⟨.int .u8, ((47 : Int) : Int)⟩)) (some ([16, 18, 19], [19])) <| .nil) 19 20 [17, 18, 19] <| .nil)) <|
  (.cond (.t 20)
  (.seq (.reg (.op (.mv 2 (.c ⟨.nil 0, ()⟩)) none <| .op (.mv 3 (.c ⟨.int .i64, ((3 : Int) : Int)⟩)) none <| .nil)) <|
  .ret)
  .skip)) <|
  (.seq (.reg (.op (.mv 4 (.c ⟨.nil 0, ()⟩)) none <| .nil)) <|
  (.seq (.reg (.op (.mv 21 (.t 0)) none <| .op (.slc 22 (.t 21) (some (.c ⟨.int .i64, ((1 : Int) : Int)⟩)) none none 0) none <| .op (.call (some 23) (strings_Split.sp n) [.v (.t 22), .v (.c ⟨.str, (([47] : List Int) : List Int)⟩)]) none <| .op (.take 5 23) none <| .nil)) <|
  (.seq (.aft (.seq (.pre [.keep [4, 5]] (.reg (.op (.mv 6 (.c ⟨.int .i64, ((0 : Int) : Int)⟩)) none <| .nil))) <|
  (.block 0 (.pre [.coe 4 (.slX .U .str), .keep [4, 5, 6]] (.loop n [4, 5, 6] Y2)))) [.keep [4]]) X1)))))
noncomputable abbrev r02_Split.c (n : Nat) : XC := r02_Split.d n (r02_Split.c1 n) (r02_Split.cb2 n)
noncomputable def r02_Split.f (n : Nat) (a0 : List Int) : Option ((List (List Int)) × Int × Unit) :=
  (bif (decide ((a0.length : Int) < (1 : Int))) then some true else (some (decide ((120 : Int) < (a0.length : Int))))).bind fun g1 =>
  (bif g1 then some true else (idxK a0 (0 : Int) fun e3 => some (!decide (e3 = (47 : Int))))).bind fun g2 =>
  bif g2 then (some (([] : List (List Int)), (3 : Int), ()))
  else (sliceK (1 : Int) (a0.length : Int) a0.length ((strings_Split.f n (cut a0 (1 : Int) (a0.length : Int)) ([47] : List Int)).bind fun r4 => r02_Split.l2 n n ([] : List (List Int)) r4 (0 : Int)))
theorem r02_Split.w (n : Nat) (a0 : List Int) (X1 Y2 : XC) : evFn (r02_Split.d n X1 Y2) r02_Split.rs r02_Split.ps r02_Split.r (a0, ()) =
  ((bif (decide ((a0.length : Int) < (1 : Int))) then some true else (some (decide ((120 : Int) < (a0.length : Int))))).bind fun g1 =>
  (bif g1 then some true else (idxK a0 (0 : Int) fun e3 => some (!decide (e3 = (47 : Int))))).bind fun g2 =>
  bif g2 then (some (([] : List (List Int)), (3 : Int), ()))
  else (sliceK (1 : Int) (a0.length : Int) a0.length ((strings_Split.f n (cut a0 (1 : Int) (a0.length : Int)) ([47] : List Int)).bind fun r4 => loopEv [4, 5, 6] (fun s K => ev Y2 s (⟨retK r02_Split.rs r02_Split.ps r02_Split.r, [(0, (r02_Split.H1 n X1))]⟩ : Ks r02_Split.R) K) n [(4, some ⟨.slX .U .str, (([] : List (List Int)) : List (List Int))⟩), (5, some ⟨.slX .U .str, r4⟩), (6, some ⟨.int .i64, (0 : Int)⟩)])) : Option r02_Split.R) := by kernel_rfl
theorem r02_Split.ok (n : Nat) (a0 : List Int) : evFn (r02_Split.c n) r02_Split.rs r02_Split.ps r02_Split.r (a0, ()) = r02_Split.f n a0 := (r02_Split.w n a0 (r02_Split.c1 n) (r02_Split.cb2 n)).trans (by simp only [r02_Split.f, r02_Split.l2_ok n] <;> kernel_rfl)
noncomputable def r02_Split.sp (n : Nat) : FSpec := { f := 7, ps := r02_Split.ps, r := r02_Split.r, run := fun x => r02_Split.f n x.1 }
theorem r02_Split.calls (n : Nat) : (r02_Split.c n).calls = [strings_Split.sp n, r02_Name.sp n] := by kernel_rfl
theorem r02_Split.fits (n : Nat) : fnB tab hd Tryd.f7 (r02_Split.c n) r02_Split.rs (r02_Split.sp n).ps (r02_Split.sp n).r = true := by kernel_rfl
theorem r02_Split.sound (n : Nat) : Sound Tryd.prog (r02_Split.sp n) := by
  refine fnB_sound tabOk eqFacts mixed (fn := Tryd.f7) (c := r02_Split.c n) (rs := r02_Split.rs) (by kernel_rfl) ?_ (r02_Split.fits n) ?_
  · rw [r02_Split.calls]
    intro s hs
    simp only [List.mem_cons, List.not_mem_nil, or_false] at hs
    rcases hs with rfl | rfl
    · exact strings_Split.meets n
    · exact r02_Name.meets n
  · rintro ⟨a0, ⟨⟩⟩ y h
    exact (r02_Split.ok n a0).trans h
theorem r02_Split.meets (n : Nat) : Meets Tryd.prog (r02_Split.sp n) := (r02_Split.sound n).meets
/-! strings.Join: by the model -/
noncomputable def strings_Join.f (n : Nat) (a0 : List (List Int)) (a1 : List Int) : Option (List Int) := joinK a0 a1
noncomputable def strings_Join.sp (n : Nat) : FSpec := joinSp 31
theorem strings_Join.meets (n : Nat) : Meets Tryd.prog (strings_Join.sp n) := join_meets_seat
/-! backwater/path.Join -/
abbrev path_Join.ps : List (Ty × Bool) := [(.slB .U false .str, false)]
abbrev path_Join.r : Ty := .tup (.pair .str (.pair (.int .i64) .unit))
abbrev path_Join.rs : List RV := [.t 2, .t 3]
abbrev path_Join.R : Type := (rtOf path_Join.ps path_Join.r).den
noncomputable def path_Join.d1 (n : Nat) : XC :=
  (.seq (.reg (.op (.mv 24 (.t 0)) none <| .op (.call (some 25) (strings_Join.sp n) [.v (.t 24), .v (.c ⟨.str, (([47] : List Int) : List Int)⟩)]) none <| .op (.bin 26 .add (.c ⟨.str, (([47] : List Int) : List Int)⟩) (.t 25)) none <| .op (.mv 2 (.t 26)) none <| .op (.mv 3 (.c ⟨.int .i64, ((0 : Int) : Int)⟩)) none <| .nil)) <|
  .ret)
noncomputable abbrev path_Join.c1 (n : Nat) : XC := path_Join.d1 n
noncomputable def path_Join.j1 (n : Nat) (x0 : List (List Int)) : Option ((List Int) × Int × Unit) :=
  (strings_Join.f n x0 ([47] : List Int)).bind fun r1 => leK (([47] : List Int).length + r1.length) maxLen (some ((([47] : List Int) ++ r1), (0 : Int), ()))
theorem path_Join.s1 (n : Nat) (x0 : List (List Int)) : ev (path_Join.c1 n) [(0, some ⟨.slB .U false .str, x0⟩)] (⟨retK path_Join.rs path_Join.ps path_Join.r, []⟩ : Ks path_Join.R) (retK path_Join.rs path_Join.ps path_Join.r) = path_Join.j1 n x0 := by kernel_rfl
noncomputable def path_Join.H1 (n : Nat) (X : XC) : St → Option path_Join.R := fun st => ghK [.keep [0]] st fun st => ev X st (⟨retK path_Join.rs path_Join.ps path_Join.r, []⟩ : Ks path_Join.R) (retK path_Join.rs path_Join.ps path_Join.r)
noncomputable abbrev path_Join.K1 (n : Nat) : St → Option path_Join.R := path_Join.H1 n (path_Join.c1 n)
noncomputable def path_Join.Kb2 (Kr2 : St → Option path_Join.R) : St → Option path_Join.R := fun st => ghK [.keep [0, 4, 7, 8, 9]] st Kr2
noncomputable def path_Join.d3 (n : Nat) : XC :=
  (.aft (.reg (.op (.bin 23 .add (.t 9) (.c ⟨.int .i64, ((1 : Int) : Int)⟩)) none <| .op (.mv 9 (.t 23)) none <| .nil)) [.keep [0, 4, 7, 8, 9]])
noncomputable abbrev path_Join.c3 (n : Nat) : XC := path_Join.d3 n
theorem path_Join.qb2_0 (Kr2 : St → Option path_Join.R) (kr2 : (List (List Int)) → Int → (List (List Int)) → Int → Int → Option ((List Int) × Int × Unit)) (hK2 : ∀ (x0 : List (List Int)) (x4 : Int) (x7 : List (List Int)) (x8 : Int) (x9 : Int), Kr2 [(0, some ⟨.slB .U false .str, x0⟩), (4, some ⟨.int .i64, x4⟩), (7, some ⟨.slB .U false .str, x7⟩), (8, some ⟨.int .i64, x8⟩), (9, some ⟨.int .i64, x9⟩)] = kr2 x0 x4 x7 x8 x9) (x0 : List (List Int)) (x4 : Int) (x7 : List (List Int)) (x8 : Int) (x9 : Int) : path_Join.Kb2 Kr2 [(0, some ⟨.slB .U false .str, x0⟩), (4, some ⟨.int .i64, x4⟩), (7, some ⟨.slB .U false .str, x7⟩), (8, some ⟨.int .i64, x8⟩), (9, some ⟨.int .i64, x9⟩)] = kr2 x0 x4 x7 x8 x9 := (by kernel_rfl : _ = Kr2 [(0, some ⟨.slB .U false .str, x0⟩), (4, some ⟨.int .i64, x4⟩), (7, some ⟨.slB .U false .str, x7⟩), (8, some ⟨.int .i64, x8⟩), (9, some ⟨.int .i64, x9⟩)]).trans (hK2 x0 x4 x7 x8 x9)
noncomputable def path_Join.j3 (n : Nat) (kr2 : (List (List Int)) → Int → (List (List Int)) → Int → Int → Option ((List Int) × Int × Unit)) (x0 : List (List Int)) (x4 : Int) (x7 : List (List Int)) (x8 : Int) (x9 : Int) : Option ((List Int) × Int × Unit) :=
  kr2 x0 x4 x7 x8 (IntKind.i64.wrap (x9 + (1 : Int)))
theorem path_Join.w3 (n : Nat) (Kr2 : St → Option path_Join.R) (x0 : List (List Int)) (x4 : Int) (x7 : List (List Int)) (x8 : Int) (x9 : Int) (K1 : St → Option path_Join.R) (Kb2 : St → Option path_Join.R) : ev (path_Join.d3 n) [(0, some ⟨.slB .U false .str, x0⟩), (4, some ⟨.int .i64, x4⟩), (7, some ⟨.slB .U false .str, x7⟩), (8, some ⟨.int .i64, x8⟩), (9, some ⟨.int .i64, x9⟩)] (⟨retK path_Join.rs path_Join.ps path_Join.r, [(0, K1)]⟩ : Ks path_Join.R) Kb2 =
  (Kb2 [(0, some ⟨.slB .U false .str, x0⟩), (4, some ⟨.int .i64, x4⟩), (7, some ⟨.slB .U false .str, x7⟩), (8, some ⟨.int .i64, x8⟩), (9, some ⟨.int .i64, (IntKind.i64.wrap (x9 + (1 : Int)))⟩)] : Option path_Join.R) := by kernel_rfl
theorem path_Join.s3 (n : Nat) (Kr2 : St → Option path_Join.R) (kr2 : (List (List Int)) → Int → (List (List Int)) → Int → Int → Option ((List Int) × Int × Unit)) (hK2 : ∀ (x0 : List (List Int)) (x4 : Int) (x7 : List (List Int)) (x8 : Int) (x9 : Int), Kr2 [(0, some ⟨.slB .U false .str, x0⟩), (4, some ⟨.int .i64, x4⟩), (7, some ⟨.slB .U false .str, x7⟩), (8, some ⟨.int .i64, x8⟩), (9, some ⟨.int .i64, x9⟩)] = kr2 x0 x4 x7 x8 x9) (x0 : List (List Int)) (x4 : Int) (x7 : List (List Int)) (x8 : Int) (x9 : Int) : ev (path_Join.c3 n) [(0, some ⟨.slB .U false .str, x0⟩), (4, some ⟨.int .i64, x4⟩), (7, some ⟨.slB .U false .str, x7⟩), (8, some ⟨.int .i64, x8⟩), (9, some ⟨.int .i64, x9⟩)] (⟨retK path_Join.rs path_Join.ps path_Join.r, [(0, (path_Join.K1 n))]⟩ : Ks path_Join.R) (path_Join.Kb2 Kr2) = path_Join.j3 n kr2 x0 x4 x7 x8 x9 := (path_Join.w3 n Kr2 x0 x4 x7 x8 x9 (path_Join.K1 n) (path_Join.Kb2 Kr2)).trans (by simp only [path_Join.j3, path_Join.qb2_0 Kr2 kr2 hK2] <;> kernel_rfl)
noncomputable def path_Join.H3 (n : Nat) (K1 : St → Option path_Join.R) (Kb2 : St → Option path_Join.R) (X : XC) : St → Option path_Join.R := fun st => ghK [.keep [0, 4, 7, 8, 9]] st fun st => ev X st (⟨retK path_Join.rs path_Join.ps path_Join.r, [(0, K1)]⟩ : Ks path_Join.R) Kb2
noncomputable abbrev path_Join.K3 (n : Nat) (Kr2 : St → Option path_Join.R) : St → Option path_Join.R := path_Join.H3 n (path_Join.K1 n) (path_Join.Kb2 Kr2) (path_Join.c3 n)
noncomputable def path_Join.db2 (n : Nat) (X3 : XC) : XC :=
  (.aft (.seq (.reg (.op (.bin 10 .lss (.t 9) (.t 8)) none <| .nil)) <|
  (.seq (.cond (.t 10)
  .skip
  (.pre [.keep [0]] (.exit 0))) <|
  (.seq (.aft (.block 1 (.seq (.reg (.op (.idxA 11 (.t 7) (.t 9) 1 0) none <| .op (.ld 12 11 1 false) none <| .op (.mv 6 (.t 12)) none <| .nil)) <|
  (.seq (.seq (.reg (.op (.mv 13 (.t 6)) none <| .op (.call (some 14) (path_Name.sp n) [.v (.t 13)]) none <| .op (.un 15 .not (.t 14)) none <| .nil)) <|
  (.cond (.t 15)
  (.seq (.pre [.keep []] (.reg (.op (.mv 2 (.c ⟨.str, (([] : List Int) : List Int)⟩)) none <| .op (.mv 3 (.c ⟨.int .i64, ((3 : Int) : Int)⟩)) none <| .nil))) <|
  .ret)
  .skip)) <|
  (.seq (.reg (.op (.mv 16 (.t 4)) none <| .op (.mv 17 (.t 6)) none <| .op (.len 18 (.t 17) true) none <| .op (.bin 19 .add (.c ⟨.int .i64, ((1 : Int) : Int)⟩) (.t 18)) none <| .op (.bin 20 .add (.t 16) (.t 19)) none <| .op (.mv 4 (.t 20)) none <| .nil)) <|
  (.seq (.pre [.keep [0, 4, 7, 8, 9]] (.reg (.op (.mv 21 (.t 4)) none <| .op (.bin 22 .gtr (.t 21) (.c ⟨.int .i64, ((120 : Int) : Int)⟩)) none <| .nil))) <|
  (.cond (.t 22)
  (.seq (.reg (.op (.mv 2 (.c ⟨.str, (([] : List Int) : List Int)⟩)) none <| .op (.mv 3 (.c ⟨.int .i64, ((3 : Int) : Int)⟩)) none <| .nil)) <|
  .ret)
  .skip)))))) [.keep [0, 4, 7, 8, 9]]) X3))) [.keep [0, 4, 7, 8, 9]])
noncomputable abbrev path_Join.cb2 (n : Nat) : XC := path_Join.db2 n (path_Join.c3 n)
theorem path_Join.q1_0_r (n : Nat) (X : XC) (x0 : List (List Int)) : path_Join.H1 n X [(0, some ⟨.slB .U false .str, x0⟩)] = (ev X [(0, some ⟨.slB .U false .str, x0⟩)] (⟨retK path_Join.rs path_Join.ps path_Join.r, []⟩ : Ks path_Join.R) (retK path_Join.rs path_Join.ps path_Join.r) : Option path_Join.R) := by kernel_rfl
theorem path_Join.q1_0 (n : Nat) (x0 : List (List Int)) : path_Join.K1 n [(0, some ⟨.slB .U false .str, x0⟩)] = path_Join.j1 n x0 := (path_Join.q1_0_r n (path_Join.c1 n) x0).trans (path_Join.s1 n x0)
noncomputable def path_Join.l2 (n : Nat) : Nat → (List (List Int)) → Int → (List (List Int)) → Int → Int → Option ((List Int) × Int × Unit)
  | 0, _, _, _, _, _ => none
  | k + 1, x0, x4, x7, x8, x9 =>
  bif (decide (x9 < x8)) then (idxK x7 x9 fun e1 => (path_Name.f n e1).bind fun r2 => bif (!r2) then (some (([] : List Int), (3 : Int), ()))
  else (bif (decide ((120 : Int) < (IntKind.i64.wrap (x4 + (IntKind.i64.wrap ((1 : Int) + (e1.length : Int))))))) then (some (([] : List Int), (3 : Int), ()))
  else (path_Join.j3 n (path_Join.l2 n k) x0 (IntKind.i64.wrap (x4 + (IntKind.i64.wrap ((1 : Int) + (e1.length : Int))))) x7 x8 x9)))
  else (path_Join.j1 n x0)
theorem path_Join.wb2 (n : Nat) (Kr2 : St → Option path_Join.R) (x0 : List (List Int)) (x4 : Int) (x7 : List (List Int)) (x8 : Int) (x9 : Int) (K1 : St → Option path_Join.R) (X3 : XC) : ev (path_Join.db2 n X3) (keepSt [(0, some ⟨.slB .U false .str, x0⟩), (4, some ⟨.int .i64, x4⟩), (7, some ⟨.slB .U false .str, x7⟩), (8, some ⟨.int .i64, x8⟩), (9, some ⟨.int .i64, x9⟩)] [0, 4, 7, 8, 9]) (⟨retK path_Join.rs path_Join.ps path_Join.r, [(0, K1)]⟩ : Ks path_Join.R) Kr2 =
  (bif (decide (x9 < x8)) then (idxK x7 x9 fun e1 => (path_Name.f n e1).bind fun r2 => bif (!r2) then (some (([] : List Int), (3 : Int), ()))
  else (bif (decide ((120 : Int) < (IntKind.i64.wrap (x4 + (IntKind.i64.wrap ((1 : Int) + (e1.length : Int))))))) then (some (([] : List Int), (3 : Int), ()))
  else (ev X3 [(0, some ⟨.slB .U false .str, x0⟩), (4, some ⟨.int .i64, (IntKind.i64.wrap (x4 + (IntKind.i64.wrap ((1 : Int) + (e1.length : Int)))))⟩), (7, some ⟨.slB .U false .str, x7⟩), (8, some ⟨.int .i64, x8⟩), (9, some ⟨.int .i64, x9⟩)] (⟨retK path_Join.rs path_Join.ps path_Join.r, [(0, K1)]⟩ : Ks path_Join.R) (path_Join.Kb2 Kr2))))
  else (K1 [(0, some ⟨.slB .U false .str, x0⟩)]) : Option path_Join.R) := by kernel_rfl
theorem path_Join.l2_ok (n : Nat) (k : Nat) : ∀ (x0 : List (List Int)) (x4 : Int) (x7 : List (List Int)) (x8 : Int) (x9 : Int), loopEv [0, 4, 7, 8, 9] (fun s K => ev (path_Join.cb2 n) s (⟨retK path_Join.rs path_Join.ps path_Join.r, [(0, (path_Join.K1 n))]⟩ : Ks path_Join.R) K) k [(0, some ⟨.slB .U false .str, x0⟩), (4, some ⟨.int .i64, x4⟩), (7, some ⟨.slB .U false .str, x7⟩), (8, some ⟨.int .i64, x8⟩), (9, some ⟨.int .i64, x9⟩)] = path_Join.l2 n k x0 x4 x7 x8 x9 := by
  induction k with
  | zero => intros; rfl
  | succ k ih =>
    intro x0 x4 x7 x8 x9
    exact (path_Join.wb2 n (fun st => loopEv [0, 4, 7, 8, 9] (fun s K => ev (path_Join.cb2 n) s (⟨retK path_Join.rs path_Join.ps path_Join.r, [(0, (path_Join.K1 n))]⟩ : Ks path_Join.R) K) k st) x0 x4 x7 x8 x9 (path_Join.K1 n) (path_Join.c3 n)).trans (by simp only [path_Join.l2, path_Join.s3 n (fun st => loopEv [0, 4, 7, 8, 9] (fun s K => ev (path_Join.cb2 n) s (⟨retK path_Join.rs path_Join.ps path_Join.r, [(0, (path_Join.K1 n))]⟩ : Ks path_Join.R) K) k st) (path_Join.l2 n k) ih, path_Join.q1_0 n] <;> kernel_rfl)
noncomputable def path_Join.d (n : Nat) (X1 Y2 : XC) : XC :=
  (.seq (.reg (.op (.mv 2 (.c ⟨.str, (([] : List Int) : List Int)⟩)) none <| .op (.mv 3 (.c ⟨.int .i64, ((0 : Int) : Int)⟩)) none <| .nil)) <|
  (.seq (.reg (.op (.mv 4 (.c ⟨.int .i64, ((0 : Int) : Int)⟩)) none <| .nil)) <|
  (.seq (.aft (.seq (.reg (.op (.mv 7 (.t 0)) none <| .op (.len 8 (.t 7) false) none <| .op (.mv 9 (.c ⟨.int .i64, ((0 : Int) : Int)⟩)) none <| .nil)) <|
  (.block 0 (.pre [.keep [0, 4, 7, 8, 9]] (.loop n [0, 4, 7, 8, 9] Y2)))) [.keep [0]]) X1)))
noncomputable abbrev path_Join.c (n : Nat) : XC := path_Join.d n (path_Join.c1 n) (path_Join.cb2 n)
noncomputable def path_Join.f (n : Nat) (a0 : List (List Int)) : Option ((List Int) × Int × Unit) :=
  path_Join.l2 n n a0 (0 : Int) a0 (a0.length : Int) (0 : Int)
theorem path_Join.w (n : Nat) (a0 : List (List Int)) (X1 Y2 : XC) : evFn (path_Join.d n X1 Y2) path_Join.rs path_Join.ps path_Join.r (a0, ()) =
  (loopEv [0, 4, 7, 8, 9] (fun s K => ev Y2 s (⟨retK path_Join.rs path_Join.ps path_Join.r, [(0, (path_Join.H1 n X1))]⟩ : Ks path_Join.R) K) n [(0, some ⟨.slB .U false .str, a0⟩), (4, some ⟨.int .i64, (0 : Int)⟩), (7, some ⟨.slB .U false .str, a0⟩), (8, some ⟨.int .i64, (a0.length : Int)⟩), (9, some ⟨.int .i64, (0 : Int)⟩)] : Option path_Join.R) := by kernel_rfl
theorem path_Join.ok (n : Nat) (a0 : List (List Int)) : evFn (path_Join.c n) path_Join.rs path_Join.ps path_Join.r (a0, ()) = path_Join.f n a0 := (path_Join.w n a0 (path_Join.c1 n) (path_Join.cb2 n)).trans (by simp only [path_Join.f, path_Join.l2_ok n] <;> kernel_rfl)
noncomputable def path_Join.sp (n : Nat) : FSpec := { f := 25, ps := path_Join.ps, r := path_Join.r, run := fun x => path_Join.f n x.1 }
theorem path_Join.calls (n : Nat) : (path_Join.c n).calls = [path_Name.sp n, strings_Join.sp n] := by kernel_rfl
theorem path_Join.fits (n : Nat) : fnB tab hd Tryd.f25 (path_Join.c n) path_Join.rs (path_Join.sp n).ps (path_Join.sp n).r = true := by kernel_rfl
theorem path_Join.sound (n : Nat) : Sound Tryd.prog (path_Join.sp n) := by
  refine fnB_sound tabOk eqFacts mixed (fn := Tryd.f25) (c := path_Join.c n) (rs := path_Join.rs) (by kernel_rfl) ?_ (path_Join.fits n) ?_
  · rw [path_Join.calls]
    intro s hs
    simp only [List.mem_cons, List.not_mem_nil, or_false] at hs
    rcases hs with rfl | rfl
    · exact path_Name.meets n
    · exact strings_Join.meets n
  · rintro ⟨a0, ⟨⟩⟩ y h
    exact (path_Join.ok n a0).trans h
theorem path_Join.meets (n : Nat) : Meets Tryd.prog (path_Join.sp n) := (path_Join.sound n).meets
/-! backwater/path.Clean -/
abbrev path_Clean.ps : List (Ty × Bool) := [(.str, false)]
abbrev path_Clean.r : Ty := .tup (.pair .str (.pair (.int .i64) .unit))
abbrev path_Clean.rs : List RV := [.t 2, .t 3]
abbrev path_Clean.R : Type := (rtOf path_Clean.ps path_Clean.r).den
noncomputable def path_Clean.d (n : Nat) : XC :=
  (.seq (.reg (.op (.mv 2 (.c ⟨.str, (([] : List Int) : List Int)⟩)) none <| .op (.mv 3 (.c ⟨.int .i64, ((0 : Int) : Int)⟩)) none <| .nil)) <|
  (.seq (.reg (.op (.mv 7 (.t 0)) none <| .op (.call (some 8) (path_Split.sp n) [.v (.t 7)]) none <| .op (.take 6 8) none <| .op (.ext 9 6 0) none <| .op (.ext 10 6 1) none <| .op (.take 4 9) none <| .op (.mv 5 (.t 10)) none <| .nil)) <|
  (.seq (.seq (.reg (.op (.mv 11 (.t 5)) none <| .op (.bin 12 .neq (.t 11) (.c ⟨.int .i64, ((0 : Int) : Int)⟩)) none <| .nil)) <|
  (.cond (.t 12)
  (.seq (.reg (.op (.mv 13 (.t 5)) none <| .op (.mv 2 (.c ⟨.str, (([] : List Int) : List Int)⟩)) none <| .op (.mv 3 (.t 13)) none <| .nil)) <|
  .ret)
  .skip)) <|
  (.seq (.reg (.op (.bor 14 4) none <| .op (.call (some 15) (path_Join.sp n) [.v (.t 14)]) none <| .op (.ext 16 15 0) none <| .op (.ext 17 15 1) none <| .op (.mv 2 (.t 16)) none <| .op (.mv 3 (.t 17)) none <| .nil)) <|
  .ret))))
noncomputable abbrev path_Clean.c (n : Nat) : XC := path_Clean.d n
noncomputable def path_Clean.f (n : Nat) (a0 : List Int) : Option ((List Int) × Int × Unit) :=
  (path_Split.f n a0).bind fun r1 => bif (!decide (r1.2.1 = (0 : Int))) then (some (([] : List Int), r1.2.1, ()))
  else ((path_Join.f n r1.1).bind fun r2 => some (r2.1, r2.2.1, ()))
theorem path_Clean.ok (n : Nat) (a0 : List Int) : evFn (path_Clean.c n) path_Clean.rs path_Clean.ps path_Clean.r (a0, ()) = path_Clean.f n a0 := by kernel_rfl
noncomputable def path_Clean.sp (n : Nat) : FSpec := { f := 15, ps := path_Clean.ps, r := path_Clean.r, run := fun x => path_Clean.f n x.1 }
theorem path_Clean.calls (n : Nat) : (path_Clean.c n).calls = [path_Split.sp n, path_Join.sp n] := by kernel_rfl
theorem path_Clean.fits (n : Nat) : fnB tab hd Tryd.f15 (path_Clean.c n) path_Clean.rs (path_Clean.sp n).ps (path_Clean.sp n).r = true := by kernel_rfl
theorem path_Clean.sound (n : Nat) : Sound Tryd.prog (path_Clean.sp n) := by
  refine fnB_sound tabOk eqFacts mixed (fn := Tryd.f15) (c := path_Clean.c n) (rs := path_Clean.rs) (by kernel_rfl) ?_ (path_Clean.fits n) ?_
  · rw [path_Clean.calls]
    intro s hs
    simp only [List.mem_cons, List.not_mem_nil, or_false] at hs
    rcases hs with rfl | rfl
    · exact path_Split.meets n
    · exact path_Join.meets n
  · rintro ⟨a0, ⟨⟩⟩ y h
    exact (path_Clean.ok n a0).trans h
theorem path_Clean.meets (n : Nat) : Meets Tryd.prog (path_Clean.sp n) := (path_Clean.sound n).meets
/-! backwater/path.last -/
abbrev path_last.ps : List (Ty × Bool) := [(.str, false)]
abbrev path_last.r : Ty := .tup (.pair (.slB .U false .str) (.pair .str (.pair (.int .i64) .unit)))
abbrev path_last.rs : List RV := [.t 2, .t 3, .t 4]
abbrev path_last.R : Type := (rtOf path_last.ps path_last.r).den
noncomputable def path_last.d (n : Nat) : XC :=
  (.seq (.reg (.op (.mv 2 (.c ⟨.nil 0, ()⟩)) none <| .op (.mv 3 (.c ⟨.str, (([] : List Int) : List Int)⟩)) none <| .op (.mv 4 (.c ⟨.int .i64, ((0 : Int) : Int)⟩)) none <| .nil)) <|
  (.seq (.reg (.op (.mv 9 (.t 0)) none <| .op (.call (some 10) (path_Split.sp n) [.v (.t 9)]) none <| .op (.take 8 10) none <| .op (.ext 11 8 0) none <| .op (.ext 12 8 1) none <| .op (.frz 5 11) none <| .op (.mv 6 (.t 12)) none <| .nil)) <|
  (.seq (.seq (.reg (.op (.mv 13 (.t 6)) none <| .op (.bin 14 .neq (.t 13) (.c ⟨.int .i64, ((0 : Int) : Int)⟩)) none <| .op (.mv 15 (.t 14)) none <| .grp 15 false (.op (.mv 16 (.t 5)) (some ([5, 15, 16], [16])) <| .op (.len 17 (.t 16) false) (some ([15, 16, 17], [17])) <| .op (.bin 18 .eql (.t 17) (.c ⟨.int .i64, ((0 : Int) : Int)⟩)) (some ([15, 17, 18], [18])) <| .nil) 18 19 [16, 17, 18] <| .nil)) <|
  (.cond (.t 19)
  (.seq (.pre [.keep []] (.reg (.op (.mv 2 (.c ⟨.nil 0, ()⟩)) none <| .op (.mv 3 (.c ⟨.str, (([] : List Int) : List Int)⟩)) none <| .op (.mv 4 (.c ⟨.int .i64, ((3 : Int) : Int)⟩)) none <| .nil))) <|
  .ret)
  .skip)) <|
  (.seq (.pre [.keep [5]] (.reg (.op (.mv 20 (.t 5)) none <| .op (.len 21 (.t 20) false) none <| .op (.bin 22 .sub (.t 21) (.c ⟨.int .i64, ((1 : Int) : Int)⟩)) none <| .op (.mv 7 (.t 22)) none <| .nil))) <|
  (.seq (.regD (.op (.mv 23 (.t 5)) (some ([5, 23], [23])) <| .op (.mv 24 (.t 7)) (some ([7, 24], [24])) <| .op (.slc 25 (.t 23) none (some (.t 24)) none 1) (some ([23, 24, 25], [25])) <| .op (.mv 26 (.t 5)) (some ([5, 26], [26])) <| .op (.mv 27 (.t 7)) (some ([7, 27], [27])) <| .op (.idxA 28 (.t 26) (.t 27) 1 0) (some ([26, 27, 28], [28])) <| .op (.ld 29 28 1 false) (some ([28, 29], [29])) <| .op (.mv 2 (.t 25)) (some ([2, 25], [2])) <| .op (.mv 3 (.t 29)) (some ([3, 29], [3])) <| .op (.mv 4 (.c ⟨.int .i64, ((0 : Int) : Int)⟩)) (some ([4], [4])) <| .nil)) <|
  .ret)))))
noncomputable abbrev path_last.c (n : Nat) : XC := path_last.d n
noncomputable def path_last.f (n : Nat) (a0 : List Int) : Option ((List (List Int)) × (List Int) × Int × Unit) :=
  (path_Split.f n a0).bind fun r1 => (bif (!decide (r1.2.1 = (0 : Int))) then some true else (some (decide ((r1.1.length : Int) = (0 : Int))))).bind fun g2 =>
  bif g2 then (some (([] : List (List Int)), ([] : List Int), (3 : Int), ()))
  else (sliceK 0 (IntKind.i64.wrap ((r1.1.length : Int) - (1 : Int))) r1.1.length (idxK r1.1 (IntKind.i64.wrap ((r1.1.length : Int) - (1 : Int))) fun e3 => some ((cut r1.1 0 (IntKind.i64.wrap ((r1.1.length : Int) - (1 : Int)))), e3, (0 : Int), ())))
theorem path_last.ok (n : Nat) (a0 : List Int) : evFn (path_last.c n) path_last.rs path_last.ps path_last.r (a0, ()) = path_last.f n a0 := by kernel_rfl
noncomputable def path_last.sp (n : Nat) : FSpec := { f := 27, ps := path_last.ps, r := path_last.r, run := fun x => path_last.f n x.1 }
theorem path_last.calls (n : Nat) : (path_last.c n).calls = [path_Split.sp n] := by kernel_rfl
theorem path_last.fits (n : Nat) : fnB tab hd Tryd.f27 (path_last.c n) path_last.rs (path_last.sp n).ps (path_last.sp n).r = true := by kernel_rfl
theorem path_last.sound (n : Nat) : Sound Tryd.prog (path_last.sp n) := by
  refine fnB_sound tabOk eqFacts mixed (fn := Tryd.f27) (c := path_last.c n) (rs := path_last.rs) (by kernel_rfl) ?_ (path_last.fits n) ?_
  · rw [path_last.calls]
    intro s hs
    simp only [List.mem_cons, List.not_mem_nil, or_false] at hs
    rcases hs with rfl
    · exact path_Split.meets n
  · rintro ⟨a0, ⟨⟩⟩ y h
    exact (path_last.ok n a0).trans h
theorem path_last.meets (n : Nat) : Meets Tryd.prog (path_last.sp n) := (path_last.sound n).meets
/-! backwater/path.Dir -/
abbrev path_Dir.ps : List (Ty × Bool) := [(.str, false)]
abbrev path_Dir.r : Ty := .tup (.pair .str (.pair (.int .i64) .unit))
abbrev path_Dir.rs : List RV := [.t 2, .t 3]
abbrev path_Dir.R : Type := (rtOf path_Dir.ps path_Dir.r).den
noncomputable def path_Dir.d (n : Nat) : XC :=
  (.seq (.reg (.op (.mv 2 (.c ⟨.str, (([] : List Int) : List Int)⟩)) none <| .op (.mv 3 (.c ⟨.int .i64, ((0 : Int) : Int)⟩)) none <| .nil)) <|
  (.seq (.reg (.op (.mv 8 (.t 0)) none <| .op (.call (some 9) (path_last.sp n) [.v (.t 8)]) none <| .op (.take 7 9) none <| .op (.ext 10 7 0) none <| .op (.ext 11 7 1) none <| .op (.ext 12 7 2) none <| .op (.mv 4 (.t 10)) none <| .op (.mv 5 (.t 11)) none <| .op (.mv 6 (.t 12)) none <| .nil)) <|
  (.seq (.seq (.reg (.op (.mv 13 (.t 6)) none <| .op (.bin 14 .neq (.t 13) (.c ⟨.int .i64, ((0 : Int) : Int)⟩)) none <| .nil)) <|
  (.cond (.t 14)
  (.seq (.pre [.keep [6]] (.reg (.op (.mv 15 (.t 6)) none <| .op (.mv 2 (.c ⟨.str, (([] : List Int) : List Int)⟩)) none <| .op (.mv 3 (.t 15)) none <| .nil))) <|
  .ret)
  .skip)) <|
  (.seq (.pre [.keep [4]] (.reg (.op (.mv 16 (.t 4)) none <| .op (.call (some 17) (path_Join.sp n) [.v (.t 16)]) none <| .op (.ext 18 17 0) none <| .op (.ext 19 17 1) none <| .op (.mv 2 (.t 18)) none <| .op (.mv 3 (.t 19)) none <| .nil))) <|
  .ret))))
noncomputable abbrev path_Dir.c (n : Nat) : XC := path_Dir.d n
noncomputable def path_Dir.f (n : Nat) (a0 : List Int) : Option ((List Int) × Int × Unit) :=
  (path_last.f n a0).bind fun r1 => bif (!decide (r1.2.2.1 = (0 : Int))) then (some (([] : List Int), r1.2.2.1, ()))
  else ((path_Join.f n r1.1).bind fun r2 => some (r2.1, r2.2.1, ()))
theorem path_Dir.ok (n : Nat) (a0 : List Int) : evFn (path_Dir.c n) path_Dir.rs path_Dir.ps path_Dir.r (a0, ()) = path_Dir.f n a0 := by kernel_rfl
noncomputable def path_Dir.sp (n : Nat) : FSpec := { f := 17, ps := path_Dir.ps, r := path_Dir.r, run := fun x => path_Dir.f n x.1 }
theorem path_Dir.calls (n : Nat) : (path_Dir.c n).calls = [path_last.sp n, path_Join.sp n] := by kernel_rfl
theorem path_Dir.fits (n : Nat) : fnB tab hd Tryd.f17 (path_Dir.c n) path_Dir.rs (path_Dir.sp n).ps (path_Dir.sp n).r = true := by kernel_rfl
theorem path_Dir.sound (n : Nat) : Sound Tryd.prog (path_Dir.sp n) := by
  refine fnB_sound tabOk eqFacts mixed (fn := Tryd.f17) (c := path_Dir.c n) (rs := path_Dir.rs) (by kernel_rfl) ?_ (path_Dir.fits n) ?_
  · rw [path_Dir.calls]
    intro s hs
    simp only [List.mem_cons, List.not_mem_nil, or_false] at hs
    rcases hs with rfl | rfl
    · exact path_last.meets n
    · exact path_Join.meets n
  · rintro ⟨a0, ⟨⟩⟩ y h
    exact (path_Dir.ok n a0).trans h
theorem path_Dir.meets (n : Nat) : Meets Tryd.prog (path_Dir.sp n) := (path_Dir.sound n).meets
/-! slices.Equal[[]string,string] -/
abbrev slices_Equal.ps : List (Ty × Bool) := [(.slB .U false .str, false), (.slB .U false .str, false)]
abbrev slices_Equal.r : Ty := .bool
abbrev slices_Equal.rs : List RV := [.t 4]
abbrev slices_Equal.R : Type := (rtOf slices_Equal.ps slices_Equal.r).den
noncomputable def slices_Equal.d1 (n : Nat) : XC :=
  (.seq (.reg (.op (.mv 4 (.c ⟨.bool, (true : Bool)⟩)) none <| .nil)) <|
  .ret)
noncomputable abbrev slices_Equal.c1 (n : Nat) : XC := slices_Equal.d1 n
noncomputable def slices_Equal.j1 (n : Nat)  : Option Bool :=
  some true
theorem slices_Equal.s1 (n : Nat)  : ev (slices_Equal.c1 n) [] (⟨retK slices_Equal.rs slices_Equal.ps slices_Equal.r, []⟩ : Ks slices_Equal.R) (retK slices_Equal.rs slices_Equal.ps slices_Equal.r) = slices_Equal.j1 n  := by kernel_rfl
noncomputable def slices_Equal.H1 (n : Nat) (X : XC) : St → Option slices_Equal.R := fun st => ghK [.keep []] st fun st => ev X st (⟨retK slices_Equal.rs slices_Equal.ps slices_Equal.r, []⟩ : Ks slices_Equal.R) (retK slices_Equal.rs slices_Equal.ps slices_Equal.r)
noncomputable abbrev slices_Equal.K1 (n : Nat) : St → Option slices_Equal.R := slices_Equal.H1 n (slices_Equal.c1 n)
noncomputable def slices_Equal.Kb2 (Kr2 : St → Option slices_Equal.R) : St → Option slices_Equal.R := fun st => ghK [.keep [0, 1, 12, 13]] st Kr2
noncomputable def slices_Equal.d3 (n : Nat) : XC :=
  (.aft (.reg (.op (.bin 25 .add (.t 13) (.c ⟨.int .i64, ((1 : Int) : Int)⟩)) none <| .op (.mv 13 (.t 25)) none <| .nil)) [.keep [0, 1, 12, 13]])
noncomputable abbrev slices_Equal.c3 (n : Nat) : XC := slices_Equal.d3 n
theorem slices_Equal.qb2_0 (Kr2 : St → Option slices_Equal.R) (kr2 : (List (List Int)) → (List (List Int)) → Int → Int → Option Bool) (hK2 : ∀ (x0 : List (List Int)) (x1 : List (List Int)) (x12 : Int) (x13 : Int), Kr2 [(0, some ⟨.slB .U false .str, x0⟩), (1, some ⟨.slB .U false .str, x1⟩), (12, some ⟨.int .i64, x12⟩), (13, some ⟨.int .i64, x13⟩)] = kr2 x0 x1 x12 x13) (x0 : List (List Int)) (x1 : List (List Int)) (x12 : Int) (x13 : Int) : slices_Equal.Kb2 Kr2 [(0, some ⟨.slB .U false .str, x0⟩), (1, some ⟨.slB .U false .str, x1⟩), (12, some ⟨.int .i64, x12⟩), (13, some ⟨.int .i64, x13⟩)] = kr2 x0 x1 x12 x13 := (by kernel_rfl : _ = Kr2 [(0, some ⟨.slB .U false .str, x0⟩), (1, some ⟨.slB .U false .str, x1⟩), (12, some ⟨.int .i64, x12⟩), (13, some ⟨.int .i64, x13⟩)]).trans (hK2 x0 x1 x12 x13)
noncomputable def slices_Equal.j3 (n : Nat) (kr2 : (List (List Int)) → (List (List Int)) → Int → Int → Option Bool) (x0 : List (List Int)) (x1 : List (List Int)) (x12 : Int) (x13 : Int) : Option Bool :=
  kr2 x0 x1 x12 (IntKind.i64.wrap (x13 + (1 : Int)))
theorem slices_Equal.w3 (n : Nat) (Kr2 : St → Option slices_Equal.R) (x0 : List (List Int)) (x1 : List (List Int)) (x12 : Int) (x13 : Int) (K1 : St → Option slices_Equal.R) (Kb2 : St → Option slices_Equal.R) : ev (slices_Equal.d3 n) [(0, some ⟨.slB .U false .str, x0⟩), (1, some ⟨.slB .U false .str, x1⟩), (12, some ⟨.int .i64, x12⟩), (13, some ⟨.int .i64, x13⟩)] (⟨retK slices_Equal.rs slices_Equal.ps slices_Equal.r, [(0, K1)]⟩ : Ks slices_Equal.R) Kb2 =
  (Kb2 [(0, some ⟨.slB .U false .str, x0⟩), (1, some ⟨.slB .U false .str, x1⟩), (12, some ⟨.int .i64, x12⟩), (13, some ⟨.int .i64, (IntKind.i64.wrap (x13 + (1 : Int)))⟩)] : Option slices_Equal.R) := by kernel_rfl
theorem slices_Equal.s3 (n : Nat) (Kr2 : St → Option slices_Equal.R) (kr2 : (List (List Int)) → (List (List Int)) → Int → Int → Option Bool) (hK2 : ∀ (x0 : List (List Int)) (x1 : List (List Int)) (x12 : Int) (x13 : Int), Kr2 [(0, some ⟨.slB .U false .str, x0⟩), (1, some ⟨.slB .U false .str, x1⟩), (12, some ⟨.int .i64, x12⟩), (13, some ⟨.int .i64, x13⟩)] = kr2 x0 x1 x12 x13) (x0 : List (List Int)) (x1 : List (List Int)) (x12 : Int) (x13 : Int) : ev (slices_Equal.c3 n) [(0, some ⟨.slB .U false .str, x0⟩), (1, some ⟨.slB .U false .str, x1⟩), (12, some ⟨.int .i64, x12⟩), (13, some ⟨.int .i64, x13⟩)] (⟨retK slices_Equal.rs slices_Equal.ps slices_Equal.r, [(0, (slices_Equal.K1 n))]⟩ : Ks slices_Equal.R) (slices_Equal.Kb2 Kr2) = slices_Equal.j3 n kr2 x0 x1 x12 x13 := (slices_Equal.w3 n Kr2 x0 x1 x12 x13 (slices_Equal.K1 n) (slices_Equal.Kb2 Kr2)).trans (by simp only [slices_Equal.j3, slices_Equal.qb2_0 Kr2 kr2 hK2] <;> kernel_rfl)
noncomputable def slices_Equal.H3 (n : Nat) (K1 : St → Option slices_Equal.R) (Kb2 : St → Option slices_Equal.R) (X : XC) : St → Option slices_Equal.R := fun st => ghK [.keep [0, 1, 12, 13]] st fun st => ev X st (⟨retK slices_Equal.rs slices_Equal.ps slices_Equal.r, [(0, K1)]⟩ : Ks slices_Equal.R) Kb2
noncomputable abbrev slices_Equal.K3 (n : Nat) (Kr2 : St → Option slices_Equal.R) : St → Option slices_Equal.R := slices_Equal.H3 n (slices_Equal.K1 n) (slices_Equal.Kb2 Kr2) (slices_Equal.c3 n)
noncomputable def slices_Equal.db2 (n : Nat) (X3 : XC) : XC :=
  (.aft (.seq (.reg (.op (.bin 14 .lss (.t 13) (.t 12)) none <| .nil)) <|
  (.seq (.cond (.t 14)
  .skip
  (.pre [.keep []] (.exit 0))) <|
  (.seq (.aft (.block 1 (.seq (.reg (.op (.mv 15 (.t 13)) none <| .op (.mv 5 (.t 15)) none <| .nil)) <|
  (.seq (.regD (.op (.mv 16 (.t 0)) (some ([0, 16], [16])) <| .op (.mv 17 (.t 5)) (some ([5, 17], [17])) <| .op (.idxA 18 (.t 16) (.t 17) 1 0) (some ([16, 17, 18], [18])) <| .op (.ld 19 18 1 false) (some ([18, 19], [19])) <| .op (.mv 20 (.t 1)) (some ([1, 20], [20])) <| .op (.mv 21 (.t 5)) (some ([5, 21], [21])) <| .op (.idxA 22 (.t 20) (.t 21) 1 0) (some ([20, 21, 22], [22])) <| .op (.ld 23 22 1 false) (some ([22, 23], [23])) <| .op (.bin 24 .neq (.t 19) (.t 23)) (some ([19, 23, 24], [24])) <| .nil)) <|
  (.cond (.t 24)
  (.seq (.pre [.keep []] (.reg (.op (.mv 4 (.c ⟨.bool, (false : Bool)⟩)) none <| .nil))) <|
  .ret)
  .skip)))) [.keep [0, 1, 12, 13]]) X3))) [.keep [0, 1, 12, 13]])
noncomputable abbrev slices_Equal.cb2 (n : Nat) : XC := slices_Equal.db2 n (slices_Equal.c3 n)
theorem slices_Equal.q1_0_r (n : Nat) (X : XC)  : slices_Equal.H1 n X [] = (ev X [] (⟨retK slices_Equal.rs slices_Equal.ps slices_Equal.r, []⟩ : Ks slices_Equal.R) (retK slices_Equal.rs slices_Equal.ps slices_Equal.r) : Option slices_Equal.R) := by kernel_rfl
theorem slices_Equal.q1_0 (n : Nat)  : slices_Equal.K1 n [] = slices_Equal.j1 n  := (slices_Equal.q1_0_r n (slices_Equal.c1 n) ).trans (slices_Equal.s1 n )
noncomputable def slices_Equal.l2 (n : Nat) : Nat → (List (List Int)) → (List (List Int)) → Int → Int → Option Bool
  | 0, _, _, _, _ => none
  | k + 1, x0, x1, x12, x13 =>
  bif (decide (x13 < x12)) then (idxK x0 x13 fun e1 => idxK x1 x13 fun e2 => bif (!decide (e1 = e2)) then (some false)
  else (slices_Equal.j3 n (slices_Equal.l2 n k) x0 x1 x12 x13))
  else (slices_Equal.j1 n )
theorem slices_Equal.wb2 (n : Nat) (Kr2 : St → Option slices_Equal.R) (x0 : List (List Int)) (x1 : List (List Int)) (x12 : Int) (x13 : Int) (K1 : St → Option slices_Equal.R) (X3 : XC) : ev (slices_Equal.db2 n X3) (keepSt [(0, some ⟨.slB .U false .str, x0⟩), (1, some ⟨.slB .U false .str, x1⟩), (12, some ⟨.int .i64, x12⟩), (13, some ⟨.int .i64, x13⟩)] [0, 1, 12, 13]) (⟨retK slices_Equal.rs slices_Equal.ps slices_Equal.r, [(0, K1)]⟩ : Ks slices_Equal.R) Kr2 =
  (bif (decide (x13 < x12)) then (idxK x0 x13 fun e1 => idxK x1 x13 fun e2 => bif (!decide (e1 = e2)) then (some false)
  else (ev X3 [(0, some ⟨.slB .U false .str, x0⟩), (1, some ⟨.slB .U false .str, x1⟩), (12, some ⟨.int .i64, x12⟩), (13, some ⟨.int .i64, x13⟩)] (⟨retK slices_Equal.rs slices_Equal.ps slices_Equal.r, [(0, K1)]⟩ : Ks slices_Equal.R) (slices_Equal.Kb2 Kr2)))
  else (K1 []) : Option slices_Equal.R) := by kernel_rfl
theorem slices_Equal.l2_ok (n : Nat) (k : Nat) : ∀ (x0 : List (List Int)) (x1 : List (List Int)) (x12 : Int) (x13 : Int), loopEv [0, 1, 12, 13] (fun s K => ev (slices_Equal.cb2 n) s (⟨retK slices_Equal.rs slices_Equal.ps slices_Equal.r, [(0, (slices_Equal.K1 n))]⟩ : Ks slices_Equal.R) K) k [(0, some ⟨.slB .U false .str, x0⟩), (1, some ⟨.slB .U false .str, x1⟩), (12, some ⟨.int .i64, x12⟩), (13, some ⟨.int .i64, x13⟩)] = slices_Equal.l2 n k x0 x1 x12 x13 := by
  induction k with
  | zero => intros; rfl
  | succ k ih =>
    intro x0 x1 x12 x13
    exact (slices_Equal.wb2 n (fun st => loopEv [0, 1, 12, 13] (fun s K => ev (slices_Equal.cb2 n) s (⟨retK slices_Equal.rs slices_Equal.ps slices_Equal.r, [(0, (slices_Equal.K1 n))]⟩ : Ks slices_Equal.R) K) k st) x0 x1 x12 x13 (slices_Equal.K1 n) (slices_Equal.c3 n)).trans (by simp only [slices_Equal.l2, slices_Equal.s3 n (fun st => loopEv [0, 1, 12, 13] (fun s K => ev (slices_Equal.cb2 n) s (⟨retK slices_Equal.rs slices_Equal.ps slices_Equal.r, [(0, (slices_Equal.K1 n))]⟩ : Ks slices_Equal.R) K) k st) (slices_Equal.l2 n k) ih, slices_Equal.q1_0 n] <;> kernel_rfl)
noncomputable def slices_Equal.d (n : Nat) (X1 Y2 : XC) : XC :=
  (.seq (.reg (.op (.mv 4 (.c ⟨.bool, (false : Bool)⟩)) none <| .nil)) <|
  (.seq (.seq (.reg (.op (.mv 6 (.t 0)) none <| .op (.len 7 (.t 6) false) none <| .op (.mv 8 (.t 1)) none <| .op (.len 9 (.t 8) false) none <| .op (.bin 10 .neq (.t 7) (.t 9)) none <| .nil)) <|
  (.cond (.t 10)
  (.seq (.reg (.op (.mv 4 (.c ⟨.bool, (false : Bool)⟩)) none <| .nil)) <|
  .ret)
  .skip)) <|
  (.seq (.aft (.seq (.reg (.op (.mv 11 (.t 0)) none <| .op (.len 12 (.t 11) false) none <| .op (.mv 13 (.c ⟨.int .i64, ((0 : Int) : Int)⟩)) none <| .nil)) <|
  (.block 0 (.pre [.keep [0, 1, 12, 13]] (.loop n [0, 1, 12, 13] Y2)))) [.keep []]) X1)))
noncomputable abbrev slices_Equal.c (n : Nat) : XC := slices_Equal.d n (slices_Equal.c1 n) (slices_Equal.cb2 n)
noncomputable def slices_Equal.f (n : Nat) (a0 : List (List Int)) (a1 : List (List Int)) : Option Bool :=
  bif (!decide ((a0.length : Int) = (a1.length : Int))) then (some false)
  else (slices_Equal.l2 n n a0 a1 (a0.length : Int) (0 : Int))
theorem slices_Equal.w (n : Nat) (a0 : List (List Int)) (a1 : List (List Int)) (X1 Y2 : XC) : evFn (slices_Equal.d n X1 Y2) slices_Equal.rs slices_Equal.ps slices_Equal.r (a0, a1, ()) =
  (bif (!decide ((a0.length : Int) = (a1.length : Int))) then (some false)
  else (loopEv [0, 1, 12, 13] (fun s K => ev Y2 s (⟨retK slices_Equal.rs slices_Equal.ps slices_Equal.r, [(0, (slices_Equal.H1 n X1))]⟩ : Ks slices_Equal.R) K) n [(0, some ⟨.slB .U false .str, a0⟩), (1, some ⟨.slB .U false .str, a1⟩), (12, some ⟨.int .i64, (a0.length : Int)⟩), (13, some ⟨.int .i64, (0 : Int)⟩)]) : Option slices_Equal.R) := by kernel_rfl
theorem slices_Equal.ok (n : Nat) (a0 : List (List Int)) (a1 : List (List Int)) : evFn (slices_Equal.c n) slices_Equal.rs slices_Equal.ps slices_Equal.r (a0, a1, ()) = slices_Equal.f n a0 a1 := (slices_Equal.w n a0 a1 (slices_Equal.c1 n) (slices_Equal.cb2 n)).trans (by simp only [slices_Equal.f, slices_Equal.l2_ok n] <;> kernel_rfl)
noncomputable def slices_Equal.sp (n : Nat) : FSpec := { f := 24, ps := slices_Equal.ps, r := slices_Equal.r, run := fun x => slices_Equal.f n x.1 x.2.1 }
theorem slices_Equal.calls (n : Nat) : (slices_Equal.c n).calls = [] := by kernel_rfl
theorem slices_Equal.fits (n : Nat) : fnB tab hd Tryd.f24 (slices_Equal.c n) slices_Equal.rs (slices_Equal.sp n).ps (slices_Equal.sp n).r = true := by kernel_rfl
theorem slices_Equal.sound (n : Nat) : Sound Tryd.prog (slices_Equal.sp n) := by
  refine fnB_sound tabOk eqFacts mixed (fn := Tryd.f24) (c := slices_Equal.c n) (rs := slices_Equal.rs) (by kernel_rfl) ?_ (slices_Equal.fits n) ?_
  · rw [slices_Equal.calls]
    intro s hs; cases hs
  · rintro ⟨a0, a1, ⟨⟩⟩ y h
    exact (slices_Equal.ok n a0 a1).trans h
theorem slices_Equal.meets (n : Nat) : Meets Tryd.prog (slices_Equal.sp n) := (slices_Equal.sound n).meets
/-! backwater/path.Same -/
abbrev path_Same.ps : List (Ty × Bool) := [(.slB .U false .str, false), (.slB .U false .str, false)]
abbrev path_Same.r : Ty := .bool
abbrev path_Same.rs : List RV := [.t 4]
abbrev path_Same.R : Type := (rtOf path_Same.ps path_Same.r).den
noncomputable def path_Same.d (n : Nat) : XC :=
  (.seq (.reg (.op (.mv 4 (.c ⟨.bool, (false : Bool)⟩)) none <| .nil)) <|
  (.seq (.reg (.op (.mv 5 (.t 0)) none <| .op (.mv 6 (.t 1)) none <| .op (.call (some 7) (slices_Equal.sp n) [.v (.t 5), .v (.t 6)]) none <| .op (.mv 4 (.t 7)) none <| .nil)) <|
  .ret))
noncomputable abbrev path_Same.c (n : Nat) : XC := path_Same.d n
noncomputable def path_Same.f (n : Nat) (a0 : List (List Int)) (a1 : List (List Int)) : Option Bool :=
  (slices_Equal.f n a0 a1).bind fun r1 => some r1
theorem path_Same.ok (n : Nat) (a0 : List (List Int)) (a1 : List (List Int)) : evFn (path_Same.c n) path_Same.rs path_Same.ps path_Same.r (a0, a1, ()) = path_Same.f n a0 a1 := by kernel_rfl
noncomputable def path_Same.sp (n : Nat) : FSpec := { f := 14, ps := path_Same.ps, r := path_Same.r, run := fun x => path_Same.f n x.1 x.2.1 }
theorem path_Same.calls (n : Nat) : (path_Same.c n).calls = [slices_Equal.sp n] := by kernel_rfl
theorem path_Same.fits (n : Nat) : fnB tab hd Tryd.f14 (path_Same.c n) path_Same.rs (path_Same.sp n).ps (path_Same.sp n).r = true := by kernel_rfl
theorem path_Same.sound (n : Nat) : Sound Tryd.prog (path_Same.sp n) := by
  refine fnB_sound tabOk eqFacts mixed (fn := Tryd.f14) (c := path_Same.c n) (rs := path_Same.rs) (by kernel_rfl) ?_ (path_Same.fits n) ?_
  · rw [path_Same.calls]
    intro s hs
    simp only [List.mem_cons, List.not_mem_nil, or_false] at hs
    rcases hs with rfl
    · exact slices_Equal.meets n
  · rintro ⟨a0, a1, ⟨⟩⟩ y h
    exact (path_Same.ok n a0 a1).trans h
theorem path_Same.meets (n : Nat) : Meets Tryd.prog (path_Same.sp n) := (path_Same.sound n).meets
/-! backwater/path.Below -/
abbrev path_Below.ps : List (Ty × Bool) := [(.str, false), (.str, false)]
abbrev path_Below.r : Ty := .bool
abbrev path_Below.rs : List RV := [.t 4]
abbrev path_Below.R : Type := (rtOf path_Below.ps path_Below.r).den
noncomputable def path_Below.d (n : Nat) : XC :=
  (.seq (.reg (.op (.mv 4 (.c ⟨.bool, (false : Bool)⟩)) none <| .nil)) <|
  (.seq (.reg (.op (.mv 10 (.t 0)) none <| .op (.call (some 11) (path_Split.sp n) [.v (.t 10)]) none <| .op (.take 9 11) none <| .op (.ext 12 9 0) none <| .op (.ext 13 9 1) none <| .op (.take 5 12) none <| .op (.mv 6 (.t 13)) none <| .nil)) <|
  (.seq (.reg (.op (.mv 15 (.t 1)) none <| .op (.call (some 16) (path_Split.sp n) [.v (.t 15)]) none <| .op (.take 14 16) none <| .op (.ext 17 14 0) none <| .op (.ext 18 14 1) none <| .op (.take 7 17) none <| .op (.mv 8 (.t 18)) none <| .nil)) <|
  (.seq (.seq (.pre [.keep [5, 6, 7, 8]] (.reg (.op (.mv 19 (.t 6)) none <| .op (.bin 20 .neq (.t 19) (.c ⟨.int .i64, ((0 : Int) : Int)⟩)) none <| .op (.mv 21 (.t 20)) none <| .grp 21 false (.op (.mv 22 (.t 8)) (some ([8, 21, 22], [22])) <| .op (.bin 23 .neq (.t 22) (.c ⟨.int .i64, ((0 : Int) : Int)⟩)) (some ([21, 22, 23], [23])) <| .nil) 23 24 [22, 23] <| .op (.mv 25 (.t 24)) none <| .grp 25 false (.op (.bor 26 5) (some ([5, 25, 26], [26])) <| .op (.len 27 (.t 26) false) (some ([5, 25, 26, 27], [27])) <| .op (.bor 28 7) (some ([7, 25, 28], [28])) <| .op (.len 29 (.t 28) false) (some ([7, 25, 28, 29], [29])) <| .op (.bin 30 .leq (.t 27) (.t 29)) (some ([25, 27, 29, 30], [30])) <| .nil) 30 31 [26, 27, 28, 29, 30] <| .nil))) <|
  (.cond (.t 31)
  (.seq (.reg (.op (.mv 4 (.c ⟨.bool, (false : Bool)⟩)) none <| .nil)) <|
  .ret)
  .skip)) <|
  (.seq (.reg (.op (.bor 32 5) none <| .op (.bor 33 7) none <| .op (.len 34 (.t 33) false) none <| .op (.slc 35 (.t 32) none (some (.t 34)) none 1) none <| .op (.bor 36 7) none <| .op (.call (some 37) (path_Same.sp n) [.v (.t 35), .v (.t 36)]) none <| .op (.mv 4 (.t 37)) none <| .nil)) <|
  .ret)))))
noncomputable abbrev path_Below.c (n : Nat) : XC := path_Below.d n
noncomputable def path_Below.f (n : Nat) (a0 : List Int) (a1 : List Int) : Option Bool :=
  (path_Split.f n a0).bind fun r1 => (path_Split.f n a1).bind fun r2 => (bif (!decide (r1.2.1 = (0 : Int))) then some true else (some (!decide (r2.2.1 = (0 : Int))))).bind fun g3 =>
  (bif g3 then some true else (some (decide ((r1.1.length : Int) ≤ (r2.1.length : Int))))).bind fun g4 =>
  bif g4 then (some false)
  else (sliceK 0 (r2.1.length : Int) r1.1.length ((path_Same.f n (cut r1.1 0 (r2.1.length : Int)) r2.1).bind fun r5 => some r5))
theorem path_Below.ok (n : Nat) (a0 : List Int) (a1 : List Int) : evFn (path_Below.c n) path_Below.rs path_Below.ps path_Below.r (a0, a1, ()) = path_Below.f n a0 a1 := by kernel_rfl
noncomputable def path_Below.sp (n : Nat) : FSpec := { f := 12, ps := path_Below.ps, r := path_Below.r, run := fun x => path_Below.f n x.1 x.2.1 }
theorem path_Below.calls (n : Nat) : (path_Below.c n).calls = [path_Split.sp n, path_Split.sp n, path_Same.sp n] := by kernel_rfl
theorem path_Below.fits (n : Nat) : fnB tab hd Tryd.f12 (path_Below.c n) path_Below.rs (path_Below.sp n).ps (path_Below.sp n).r = true := by kernel_rfl
theorem path_Below.sound (n : Nat) : Sound Tryd.prog (path_Below.sp n) := by
  refine fnB_sound tabOk eqFacts mixed (fn := Tryd.f12) (c := path_Below.c n) (rs := path_Below.rs) (by kernel_rfl) ?_ (path_Below.fits n) ?_
  · rw [path_Below.calls]
    intro s hs
    simp only [List.mem_cons, List.not_mem_nil, or_false] at hs
    rcases hs with rfl | rfl | rfl
    · exact path_Split.meets n
    · exact path_Split.meets n
    · exact path_Same.meets n
  · rintro ⟨a0, a1, ⟨⟩⟩ y h
    exact (path_Below.ok n a0 a1).trans h
theorem path_Below.meets (n : Nat) : Meets Tryd.prog (path_Below.sp n) := (path_Below.sound n).meets
/-! backwater/backwaterlaw02.live -/
abbrev law02_live.ps : List (Ty × Bool) := []
abbrev law02_live.r : Ty := .bool
abbrev law02_live.rs : List RV := [.t 0]
abbrev law02_live.R : Type := (rtOf law02_live.ps law02_live.r).den
noncomputable def law02_live.d (n : Nat) : XC :=
  (.seq (.reg (.op (.mv 0 (.c ⟨.bool, (false : Bool)⟩)) none <| .nil)) <|
  (.seq (.reg (.op (.call (some 6) (path_Clean.sp n) [.v (.c ⟨.str, (([47, 97, 47, 46, 47, 98, 47, 47, 46, 46, 47, 99] : List Int) : List Int)⟩)]) none <| .op (.take 5 6) none <| .op (.ext 7 5 0) none <| .op (.ext 8 5 1) none <| .op (.mv 1 (.t 7)) none <| .op (.mv 2 (.t 8)) none <| .nil)) <|
  (.seq (.reg (.op (.call (some 10) (path_Dir.sp n) [.v (.c ⟨.str, (([47, 97, 47, 98] : List Int) : List Int)⟩)]) none <| .op (.take 9 10) none <| .op (.ext 11 9 0) none <| .op (.ext 12 9 1) none <| .op (.mv 3 (.t 11)) none <| .op (.mv 4 (.t 12)) none <| .nil)) <|
  (.seq (.reg (.op (.mv 13 (.t 2)) none <| .op (.bin 14 .eql (.t 13) (.c ⟨.int .i64, ((0 : Int) : Int)⟩)) none <| .op (.mv 15 (.t 14)) none <| .grp 15 true (.op (.mv 16 (.t 1)) (some ([1, 15, 16], [16])) <| .op (.bin 17 .eql (.t 16) (.c ⟨.str, (([47, 97, 47, 99] : List Int) : List Int)⟩)) (some ([15, 16, 17], [17])) <| .nil) 17 18 [16, 17] <| .op (.mv 19 (.t 18)) none <| .grp 19 true (.op (.mv 20 (.t 4)) (some ([4, 19, 20], [20])) <| .op (.bin 21 .eql (.t 20) (.c ⟨.int .i64, ((0 : Int) : Int)⟩)) (some ([19, 20, 21], [21])) <| .nil) 21 22 [20, 21] <| .op (.mv 23 (.t 22)) none <| .grp 23 true (.op (.mv 24 (.t 3)) (some ([3, 23, 24], [24])) <| .op (.bin 25 .eql (.t 24) (.c ⟨.str, (([47, 97] : List Int) : List Int)⟩)) (some ([23, 24, 25], [25])) <| .nil) 25 26 [24, 25] <| .op (.mv 27 (.t 26)) none <| .grp 27 true (.op (.call (some 28) (path_Name.sp n) [.v (.c ⟨.str, (([97] : List Int) : List Int)⟩)]) (some ([27, 28], [28])) <| .nil) 28 29 [28] <| .op (.mv 30 (.t 29)) none <| .grp 30 true (.op (.call (some 31) (path_Below.sp n) [.v (.c ⟨.str, (([47, 97, 47, 98] : List Int) : List Int)⟩), .v (.c ⟨.str, (([47, 97] : List Int) : List Int)⟩)]) (some ([30, 31], [31])) <| .nil) 31 32 [31] <| .op (.mv 0 (.t 32)) none <| .nil)) <|
  .ret))))
noncomputable abbrev law02_live.c (n : Nat) : XC := law02_live.d n
noncomputable def law02_live.f (n : Nat)  : Option Bool :=
  (path_Clean.f n ([47, 97, 47, 46, 47, 98, 47, 47, 46, 46, 47, 99] : List Int)).bind fun r1 => (path_Dir.f n ([47, 97, 47, 98] : List Int)).bind fun r2 => (bif (decide (r1.2.1 = (0 : Int))) then (some (decide (r1.1 = ([47, 97, 47, 99] : List Int)))) else some false).bind fun g3 =>
  (bif g3 then (some (decide (r2.2.1 = (0 : Int)))) else some false).bind fun g4 =>
  (bif g4 then (some (decide (r2.1 = ([47, 97] : List Int)))) else some false).bind fun g5 =>
  (bif g5 then ((path_Name.f n ([97] : List Int)).bind fun r7 => some r7) else some false).bind fun g6 =>
  (bif g6 then ((path_Below.f n ([47, 97, 47, 98] : List Int) ([47, 97] : List Int)).bind fun r9 => some r9) else some false).bind fun g8 =>
  some g8
theorem law02_live.ok (n : Nat)  : evFn (law02_live.c n) law02_live.rs law02_live.ps law02_live.r () = law02_live.f n  := by kernel_rfl
noncomputable def law02_live.sp (n : Nat) : FSpec := { f := 8, ps := law02_live.ps, r := law02_live.r, run := fun x => law02_live.f n  }
theorem law02_live.calls (n : Nat) : (law02_live.c n).calls = [path_Clean.sp n, path_Dir.sp n, path_Name.sp n, path_Below.sp n] := by kernel_rfl
theorem law02_live.fits (n : Nat) : fnB tab hd Tryd.f8 (law02_live.c n) law02_live.rs (law02_live.sp n).ps (law02_live.sp n).r = true := by kernel_rfl
theorem law02_live.sound (n : Nat) : Sound Tryd.prog (law02_live.sp n) := by
  refine fnB_sound tabOk eqFacts mixed (fn := Tryd.f8) (c := law02_live.c n) (rs := law02_live.rs) (by kernel_rfl) ?_ (law02_live.fits n) ?_
  · rw [law02_live.calls]
    intro s hs
    simp only [List.mem_cons, List.not_mem_nil, or_false] at hs
    rcases hs with rfl | rfl | rfl | rfl
    · exact path_Clean.meets n
    · exact path_Dir.meets n
    · exact path_Name.meets n
    · exact path_Below.meets n
  · rintro ⟨⟩ y h
    exact (law02_live.ok n ).trans h
theorem law02_live.meets (n : Nat) : Meets Tryd.prog (law02_live.sp n) := (law02_live.sound n).meets
/-! backwater/backwaterref02.Same -/
abbrev r02_Same.ps : List (Ty × Bool) := [(.slB .U false .str, false), (.slB .U false .str, false)]
abbrev r02_Same.r : Ty := .bool
abbrev r02_Same.rs : List RV := [.t 4]
abbrev r02_Same.R : Type := (rtOf r02_Same.ps r02_Same.r).den
noncomputable def r02_Same.d1 (n : Nat) : XC :=
  (.seq (.reg (.op (.mv 4 (.c ⟨.bool, (true : Bool)⟩)) none <| .nil)) <|
  .ret)
noncomputable abbrev r02_Same.c1 (n : Nat) : XC := r02_Same.d1 n
noncomputable def r02_Same.j1 (n : Nat)  : Option Bool :=
  some true
theorem r02_Same.s1 (n : Nat)  : ev (r02_Same.c1 n) [] (⟨retK r02_Same.rs r02_Same.ps r02_Same.r, []⟩ : Ks r02_Same.R) (retK r02_Same.rs r02_Same.ps r02_Same.r) = r02_Same.j1 n  := by kernel_rfl
noncomputable def r02_Same.H1 (n : Nat) (X : XC) : St → Option r02_Same.R := fun st => ghK [.keep []] st fun st => ev X st (⟨retK r02_Same.rs r02_Same.ps r02_Same.r, []⟩ : Ks r02_Same.R) (retK r02_Same.rs r02_Same.ps r02_Same.r)
noncomputable abbrev r02_Same.K1 (n : Nat) : St → Option r02_Same.R := r02_Same.H1 n (r02_Same.c1 n)
noncomputable def r02_Same.Kb2 (Kr2 : St → Option r02_Same.R) : St → Option r02_Same.R := fun st => ghK [.keep [0, 1, 5]] st Kr2
noncomputable def r02_Same.d3 (n : Nat) : XC :=
  (.aft (.reg (.op (.mv 15 (.t 5)) none <| .op (.bin 16 .add (.t 15) (.c ⟨.int .i64, ((1 : Int) : Int)⟩)) none <| .op (.mv 5 (.t 16)) none <| .nil)) [.keep [0, 1, 5]])
noncomputable abbrev r02_Same.c3 (n : Nat) : XC := r02_Same.d3 n
theorem r02_Same.qb2_0 (Kr2 : St → Option r02_Same.R) (kr2 : (List (List Int)) → (List (List Int)) → Int → Option Bool) (hK2 : ∀ (x0 : List (List Int)) (x1 : List (List Int)) (x5 : Int), Kr2 [(0, some ⟨.slB .U false .str, x0⟩), (1, some ⟨.slB .U false .str, x1⟩), (5, some ⟨.int .i64, x5⟩)] = kr2 x0 x1 x5) (x0 : List (List Int)) (x1 : List (List Int)) (x5 : Int) : r02_Same.Kb2 Kr2 [(0, some ⟨.slB .U false .str, x0⟩), (1, some ⟨.slB .U false .str, x1⟩), (5, some ⟨.int .i64, x5⟩)] = kr2 x0 x1 x5 := (by kernel_rfl : _ = Kr2 [(0, some ⟨.slB .U false .str, x0⟩), (1, some ⟨.slB .U false .str, x1⟩), (5, some ⟨.int .i64, x5⟩)]).trans (hK2 x0 x1 x5)
noncomputable def r02_Same.j3 (n : Nat) (kr2 : (List (List Int)) → (List (List Int)) → Int → Option Bool) (x0 : List (List Int)) (x1 : List (List Int)) (x5 : Int) : Option Bool :=
  kr2 x0 x1 (IntKind.i64.wrap (x5 + (1 : Int)))
theorem r02_Same.w3 (n : Nat) (Kr2 : St → Option r02_Same.R) (x0 : List (List Int)) (x1 : List (List Int)) (x5 : Int) (K1 : St → Option r02_Same.R) (Kb2 : St → Option r02_Same.R) : ev (r02_Same.d3 n) [(0, some ⟨.slB .U false .str, x0⟩), (1, some ⟨.slB .U false .str, x1⟩), (5, some ⟨.int .i64, x5⟩)] (⟨retK r02_Same.rs r02_Same.ps r02_Same.r, [(0, K1)]⟩ : Ks r02_Same.R) Kb2 =
  (Kb2 [(0, some ⟨.slB .U false .str, x0⟩), (1, some ⟨.slB .U false .str, x1⟩), (5, some ⟨.int .i64, (IntKind.i64.wrap (x5 + (1 : Int)))⟩)] : Option r02_Same.R) := by kernel_rfl
theorem r02_Same.s3 (n : Nat) (Kr2 : St → Option r02_Same.R) (kr2 : (List (List Int)) → (List (List Int)) → Int → Option Bool) (hK2 : ∀ (x0 : List (List Int)) (x1 : List (List Int)) (x5 : Int), Kr2 [(0, some ⟨.slB .U false .str, x0⟩), (1, some ⟨.slB .U false .str, x1⟩), (5, some ⟨.int .i64, x5⟩)] = kr2 x0 x1 x5) (x0 : List (List Int)) (x1 : List (List Int)) (x5 : Int) : ev (r02_Same.c3 n) [(0, some ⟨.slB .U false .str, x0⟩), (1, some ⟨.slB .U false .str, x1⟩), (5, some ⟨.int .i64, x5⟩)] (⟨retK r02_Same.rs r02_Same.ps r02_Same.r, [(0, (r02_Same.K1 n))]⟩ : Ks r02_Same.R) (r02_Same.Kb2 Kr2) = r02_Same.j3 n kr2 x0 x1 x5 := (r02_Same.w3 n Kr2 x0 x1 x5 (r02_Same.K1 n) (r02_Same.Kb2 Kr2)).trans (by simp only [r02_Same.j3, r02_Same.qb2_0 Kr2 kr2 hK2] <;> kernel_rfl)
noncomputable def r02_Same.H3 (n : Nat) (K1 : St → Option r02_Same.R) (Kb2 : St → Option r02_Same.R) (X : XC) : St → Option r02_Same.R := fun st => ghK [.keep [0, 1, 5]] st fun st => ev X st (⟨retK r02_Same.rs r02_Same.ps r02_Same.r, [(0, K1)]⟩ : Ks r02_Same.R) Kb2
noncomputable abbrev r02_Same.K3 (n : Nat) (Kr2 : St → Option r02_Same.R) : St → Option r02_Same.R := r02_Same.H3 n (r02_Same.K1 n) (r02_Same.Kb2 Kr2) (r02_Same.c3 n)
noncomputable def r02_Same.db2 (n : Nat) (X3 : XC) : XC :=
  (.aft (.seq (.seq (.reg (.op (.mv 11 (.t 5)) none <| .op (.mv 12 (.t 0)) none <| .op (.len 13 (.t 12) false) none <| .op (.bin 14 .lss (.t 11) (.t 13)) none <| .nil)) <|
  (.cond (.t 14)
  .skip
  (.pre [.keep []] (.exit 0)))) <|
  (.seq (.aft (.block 1 (.seq (.regD (.op (.mv 17 (.t 0)) (some ([0, 17], [17])) <| .op (.mv 18 (.t 5)) (some ([5, 18], [18])) <| .op (.idxA 19 (.t 17) (.t 18) 1 0) (some ([17, 18, 19], [19])) <| .op (.ld 20 19 1 false) (some ([19, 20], [20])) <| .op (.mv 21 (.t 1)) (some ([1, 21], [21])) <| .op (.mv 22 (.t 5)) (some ([5, 22], [22])) <| .op (.idxA 23 (.t 21) (.t 22) 1 0) (some ([21, 22, 23], [23])) <| .op (.ld 24 23 1 false) (some ([23, 24], [24])) <| .op (.bin 25 .neq (.t 20) (.t 24)) (some ([20, 24, 25], [25])) <| .nil)) <|
  (.cond (.t 25)
  (.seq (.pre [.keep []] (.reg (.op (.mv 4 (.c ⟨.bool, (false : Bool)⟩)) none <| .nil))) <|
  .ret)
  .skip))) [.keep [0, 1, 5]]) X3)) [.keep [0, 1, 5]])
noncomputable abbrev r02_Same.cb2 (n : Nat) : XC := r02_Same.db2 n (r02_Same.c3 n)
theorem r02_Same.q1_0_r (n : Nat) (X : XC)  : r02_Same.H1 n X [] = (ev X [] (⟨retK r02_Same.rs r02_Same.ps r02_Same.r, []⟩ : Ks r02_Same.R) (retK r02_Same.rs r02_Same.ps r02_Same.r) : Option r02_Same.R) := by kernel_rfl
theorem r02_Same.q1_0 (n : Nat)  : r02_Same.K1 n [] = r02_Same.j1 n  := (r02_Same.q1_0_r n (r02_Same.c1 n) ).trans (r02_Same.s1 n )
noncomputable def r02_Same.l2 (n : Nat) : Nat → (List (List Int)) → (List (List Int)) → Int → Option Bool
  | 0, _, _, _ => none
  | k + 1, x0, x1, x5 =>
  bif (decide (x5 < (x0.length : Int))) then (idxK x0 x5 fun e1 => idxK x1 x5 fun e2 => bif (!decide (e1 = e2)) then (some false)
  else (r02_Same.j3 n (r02_Same.l2 n k) x0 x1 x5))
  else (r02_Same.j1 n )
theorem r02_Same.wb2 (n : Nat) (Kr2 : St → Option r02_Same.R) (x0 : List (List Int)) (x1 : List (List Int)) (x5 : Int) (K1 : St → Option r02_Same.R) (X3 : XC) : ev (r02_Same.db2 n X3) (keepSt [(0, some ⟨.slB .U false .str, x0⟩), (1, some ⟨.slB .U false .str, x1⟩), (5, some ⟨.int .i64, x5⟩)] [0, 1, 5]) (⟨retK r02_Same.rs r02_Same.ps r02_Same.r, [(0, K1)]⟩ : Ks r02_Same.R) Kr2 =
  (bif (decide (x5 < (x0.length : Int))) then (idxK x0 x5 fun e1 => idxK x1 x5 fun e2 => bif (!decide (e1 = e2)) then (some false)
  else (ev X3 [(0, some ⟨.slB .U false .str, x0⟩), (1, some ⟨.slB .U false .str, x1⟩), (5, some ⟨.int .i64, x5⟩)] (⟨retK r02_Same.rs r02_Same.ps r02_Same.r, [(0, K1)]⟩ : Ks r02_Same.R) (r02_Same.Kb2 Kr2)))
  else (K1 []) : Option r02_Same.R) := by kernel_rfl
theorem r02_Same.l2_ok (n : Nat) (k : Nat) : ∀ (x0 : List (List Int)) (x1 : List (List Int)) (x5 : Int), loopEv [0, 1, 5] (fun s K => ev (r02_Same.cb2 n) s (⟨retK r02_Same.rs r02_Same.ps r02_Same.r, [(0, (r02_Same.K1 n))]⟩ : Ks r02_Same.R) K) k [(0, some ⟨.slB .U false .str, x0⟩), (1, some ⟨.slB .U false .str, x1⟩), (5, some ⟨.int .i64, x5⟩)] = r02_Same.l2 n k x0 x1 x5 := by
  induction k with
  | zero => intros; rfl
  | succ k ih =>
    intro x0 x1 x5
    exact (r02_Same.wb2 n (fun st => loopEv [0, 1, 5] (fun s K => ev (r02_Same.cb2 n) s (⟨retK r02_Same.rs r02_Same.ps r02_Same.r, [(0, (r02_Same.K1 n))]⟩ : Ks r02_Same.R) K) k st) x0 x1 x5 (r02_Same.K1 n) (r02_Same.c3 n)).trans (by simp only [r02_Same.l2, r02_Same.s3 n (fun st => loopEv [0, 1, 5] (fun s K => ev (r02_Same.cb2 n) s (⟨retK r02_Same.rs r02_Same.ps r02_Same.r, [(0, (r02_Same.K1 n))]⟩ : Ks r02_Same.R) K) k st) (r02_Same.l2 n k) ih, r02_Same.q1_0 n] <;> kernel_rfl)
noncomputable def r02_Same.d (n : Nat) (X1 Y2 : XC) : XC :=
  (.seq (.reg (.op (.mv 4 (.c ⟨.bool, (false : Bool)⟩)) none <| .nil)) <|
  (.seq (.seq (.reg (.op (.mv 6 (.t 0)) none <| .op (.len 7 (.t 6) false) none <| .op (.mv 8 (.t 1)) none <| .op (.len 9 (.t 8) false) none <| .op (.bin 10 .neq (.t 7) (.t 9)) none <| .nil)) <|
  (.cond (.t 10)
  (.seq (.reg (.op (.mv 4 (.c ⟨.bool, (false : Bool)⟩)) none <| .nil)) <|
  .ret)
  .skip)) <|
  (.seq (.aft (.seq (.reg (.op (.mv 5 (.c ⟨.int .i64, ((0 : Int) : Int)⟩)) none <| .nil)) <|
  (.block 0 (.pre [.keep [0, 1, 5]] (.loop n [0, 1, 5] Y2)))) [.keep []]) X1)))
noncomputable abbrev r02_Same.c (n : Nat) : XC := r02_Same.d n (r02_Same.c1 n) (r02_Same.cb2 n)
noncomputable def r02_Same.f (n : Nat) (a0 : List (List Int)) (a1 : List (List Int)) : Option Bool :=
  bif (!decide ((a0.length : Int) = (a1.length : Int))) then (some false)
  else (r02_Same.l2 n n a0 a1 (0 : Int))
theorem r02_Same.w (n : Nat) (a0 : List (List Int)) (a1 : List (List Int)) (X1 Y2 : XC) : evFn (r02_Same.d n X1 Y2) r02_Same.rs r02_Same.ps r02_Same.r (a0, a1, ()) =
  (bif (!decide ((a0.length : Int) = (a1.length : Int))) then (some false)
  else (loopEv [0, 1, 5] (fun s K => ev Y2 s (⟨retK r02_Same.rs r02_Same.ps r02_Same.r, [(0, (r02_Same.H1 n X1))]⟩ : Ks r02_Same.R) K) n [(0, some ⟨.slB .U false .str, a0⟩), (1, some ⟨.slB .U false .str, a1⟩), (5, some ⟨.int .i64, (0 : Int)⟩)]) : Option r02_Same.R) := by kernel_rfl
theorem r02_Same.ok (n : Nat) (a0 : List (List Int)) (a1 : List (List Int)) : evFn (r02_Same.c n) r02_Same.rs r02_Same.ps r02_Same.r (a0, a1, ()) = r02_Same.f n a0 a1 := (r02_Same.w n a0 a1 (r02_Same.c1 n) (r02_Same.cb2 n)).trans (by simp only [r02_Same.f, r02_Same.l2_ok n] <;> kernel_rfl)
noncomputable def r02_Same.sp (n : Nat) : FSpec := { f := 9, ps := r02_Same.ps, r := r02_Same.r, run := fun x => r02_Same.f n x.1 x.2.1 }
theorem r02_Same.calls (n : Nat) : (r02_Same.c n).calls = [] := by kernel_rfl
theorem r02_Same.fits (n : Nat) : fnB tab hd Tryd.f9 (r02_Same.c n) r02_Same.rs (r02_Same.sp n).ps (r02_Same.sp n).r = true := by kernel_rfl
theorem r02_Same.sound (n : Nat) : Sound Tryd.prog (r02_Same.sp n) := by
  refine fnB_sound tabOk eqFacts mixed (fn := Tryd.f9) (c := r02_Same.c n) (rs := r02_Same.rs) (by kernel_rfl) ?_ (r02_Same.fits n) ?_
  · rw [r02_Same.calls]
    intro s hs; cases hs
  · rintro ⟨a0, a1, ⟨⟩⟩ y h
    exact (r02_Same.ok n a0 a1).trans h
theorem r02_Same.meets (n : Nat) : Meets Tryd.prog (r02_Same.sp n) := (r02_Same.sound n).meets
/-! backwater/backwaterlaw02.PathSplits -/
abbrev law02_PathSplits.ps : List (Ty × Bool) := [(.str, false)]
abbrev law02_PathSplits.r : Ty := .bool
abbrev law02_PathSplits.rs : List RV := [.t 2]
abbrev law02_PathSplits.R : Type := (rtOf law02_PathSplits.ps law02_PathSplits.r).den
noncomputable def law02_PathSplits.d (n : Nat) : XC :=
  (.seq (.reg (.op (.mv 2 (.c ⟨.bool, (false : Bool)⟩)) none <| .nil)) <|
  (.seq (.reg (.op (.mv 8 (.t 0)) none <| .op (.call (some 9) (path_Split.sp n) [.v (.t 8)]) none <| .op (.take 7 9) none <| .op (.ext 10 7 0) none <| .op (.ext 11 7 1) none <| .op (.take 3 10) none <| .op (.mv 4 (.t 11)) none <| .nil)) <|
  (.seq (.reg (.op (.mv 13 (.t 0)) none <| .op (.call (some 14) (r02_Split.sp n) [.v (.t 13)]) none <| .op (.take 12 14) none <| .op (.ext 15 12 0) none <| .op (.ext 16 12 1) none <| .op (.take 5 15) none <| .op (.mv 6 (.t 16)) none <| .nil)) <|
  (.seq (.reg (.op (.call (some 17) (law02_live.sp n) []) none <| .op (.mv 18 (.t 17)) none <| .grp 18 true (.op (.bor 19 3) (some ([3, 18, 19], [19])) <| .op (.bor 20 5) (some ([5, 18, 20], [20])) <| .op (.call (some 21) (r02_Same.sp n) [.v (.t 19), .v (.t 20)]) (some ([3, 5, 18, 19, 20, 21], [21])) <| .nil) 21 22 [19, 20, 21] <| .op (.mv 23 (.t 22)) none <| .grp 23 true (.op (.mv 24 (.t 4)) (some ([4, 23, 24], [24])) <| .op (.mv 25 (.t 6)) (some ([6, 23, 25], [25])) <| .op (.bin 26 .eql (.t 24) (.t 25)) (some ([23, 24, 25, 26], [26])) <| .nil) 26 27 [24, 25, 26] <| .op (.mv 28 (.t 27)) none <| .grp 28 true (.op (.mv 29 (.t 0)) (some ([0, 28, 29], [29])) <| .op (.call (some 30) (path_Name.sp n) [.v (.t 29)]) (some ([28, 29, 30], [30])) <| .op (.mv 31 (.t 0)) (some ([0, 28, 31], [31])) <| .op (.call (some 32) (r02_Name.sp n) [.v (.t 31)]) (some ([28, 31, 32], [32])) <| .op (.eqs 33 false (.t 30) (.t 32) .bool) (some ([28, 30, 32, 33], [33])) <| .nil) 33 34 [29, 30, 31, 32, 33] <| .op (.mv 2 (.t 34)) none <| .nil)) <|
  .ret))))
noncomputable abbrev law02_PathSplits.c (n : Nat) : XC := law02_PathSplits.d n
noncomputable def law02_PathSplits.f (n : Nat) (a0 : List Int) : Option Bool :=
  (path_Split.f n a0).bind fun r1 => (r02_Split.f n a0).bind fun r2 => (law02_live.f n).bind fun r3 => (bif r3 then ((r02_Same.f n r1.1 r2.1).bind fun r5 => some r5) else some false).bind fun g4 =>
  (bif g4 then (some (decide (r1.2.1 = r2.2.1))) else some false).bind fun g6 =>
  (bif g6 then ((path_Name.f n a0).bind fun r8 => (r02_Name.f n a0).bind fun r9 => some (bbeq r8 r9)) else some false).bind fun g7 =>
  some g7
theorem law02_PathSplits.ok (n : Nat) (a0 : List Int) : evFn (law02_PathSplits.c n) law02_PathSplits.rs law02_PathSplits.ps law02_PathSplits.r (a0, ()) = law02_PathSplits.f n a0 := by kernel_rfl
noncomputable def law02_PathSplits.sp (n : Nat) : FSpec := { f := 3, ps := law02_PathSplits.ps, r := law02_PathSplits.r, run := fun x => law02_PathSplits.f n x.1 }
theorem law02_PathSplits.calls (n : Nat) : (law02_PathSplits.c n).calls = [path_Split.sp n, r02_Split.sp n, law02_live.sp n, r02_Same.sp n, path_Name.sp n, r02_Name.sp n] := by kernel_rfl
theorem law02_PathSplits.fits (n : Nat) : fnB tab hd Tryd.f3 (law02_PathSplits.c n) law02_PathSplits.rs (law02_PathSplits.sp n).ps (law02_PathSplits.sp n).r = true := by kernel_rfl
theorem law02_PathSplits.sound (n : Nat) : Sound Tryd.prog (law02_PathSplits.sp n) := by
  refine fnB_sound tabOk eqFacts mixed (fn := Tryd.f3) (c := law02_PathSplits.c n) (rs := law02_PathSplits.rs) (by kernel_rfl) ?_ (law02_PathSplits.fits n) ?_
  · rw [law02_PathSplits.calls]
    intro s hs
    simp only [List.mem_cons, List.not_mem_nil, or_false] at hs
    rcases hs with rfl | rfl | rfl | rfl | rfl | rfl
    · exact path_Split.meets n
    · exact r02_Split.meets n
    · exact law02_live.meets n
    · exact r02_Same.meets n
    · exact path_Name.meets n
    · exact r02_Name.meets n
  · rintro ⟨a0, ⟨⟩⟩ y h
    exact (law02_PathSplits.ok n a0).trans h
theorem law02_PathSplits.meets (n : Nat) : Meets Tryd.prog (law02_PathSplits.sp n) := (law02_PathSplits.sound n).meets
/-! backwater/backwaterref02.Below -/
abbrev r02_Below.ps : List (Ty × Bool) := [(.str, false), (.str, false)]
abbrev r02_Below.r : Ty := .bool
abbrev r02_Below.rs : List RV := [.t 4]
abbrev r02_Below.R : Type := (rtOf r02_Below.ps r02_Below.r).den
noncomputable def r02_Below.d (n : Nat) : XC :=
  (.seq (.reg (.op (.mv 4 (.c ⟨.bool, (false : Bool)⟩)) none <| .nil)) <|
  (.seq (.reg (.op (.mv 10 (.t 0)) none <| .op (.call (some 11) (r02_Split.sp n) [.v (.t 10)]) none <| .op (.take 9 11) none <| .op (.ext 12 9 0) none <| .op (.ext 13 9 1) none <| .op (.take 5 12) none <| .op (.mv 6 (.t 13)) none <| .nil)) <|
  (.seq (.reg (.op (.mv 15 (.t 1)) none <| .op (.call (some 16) (r02_Split.sp n) [.v (.t 15)]) none <| .op (.take 14 16) none <| .op (.ext 17 14 0) none <| .op (.ext 18 14 1) none <| .op (.take 7 17) none <| .op (.mv 8 (.t 18)) none <| .nil)) <|
  (.seq (.pre [.keep [5, 6, 7, 8]] (.reg (.op (.mv 19 (.t 6)) none <| .op (.bin 20 .eql (.t 19) (.c ⟨.int .i64, ((0 : Int) : Int)⟩)) none <| .op (.mv 21 (.t 20)) none <| .grp 21 true (.op (.mv 22 (.t 8)) (some ([8, 21, 22], [22])) <| .op (.bin 23 .eql (.t 22) (.c ⟨.int .i64, ((0 : Int) : Int)⟩)) (some ([21, 22, 23], [23])) <| .nil) 23 24 [22, 23] <| .op (.mv 25 (.t 24)) none <| .grp 25 true (.op (.bor 26 5) (some ([5, 25, 26], [26])) <| .op (.len 27 (.t 26) false) (some ([5, 25, 26, 27], [27])) <| .op (.bor 28 7) (some ([7, 25, 28], [28])) <| .op (.len 29 (.t 28) false) (some ([7, 25, 28, 29], [29])) <| .op (.bin 30 .gtr (.t 27) (.t 29)) (some ([25, 27, 29, 30], [30])) <| .nil) 30 31 [26, 27, 28, 29, 30] <| .op (.mv 32 (.t 31)) none <| .grp 32 true (.op (.bor 33 5) (some ([5, 32, 33], [33])) <| .op (.bor 34 7) (some ([7, 32, 34], [34])) <| .op (.len 35 (.t 34) false) (some ([7, 32, 34, 35], [35])) <| .op (.slc 36 (.t 33) none (some (.t 35)) none 1) (some ([5, 32, 33, 35, 36], [36])) <| .op (.bor 37 7) (some ([7, 32, 37], [37])) <| .op (.call (some 38) (r02_Same.sp n) [.v (.t 36), .v (.t 37)]) (some ([5, 7, 32, 36, 37, 38], [38])) <| .nil) 38 39 [33, 34, 35, 36, 37, 38] <| .op (.mv 4 (.t 39)) none <| .nil))) <|
  .ret))))
noncomputable abbrev r02_Below.c (n : Nat) : XC := r02_Below.d n
noncomputable def r02_Below.f (n : Nat) (a0 : List Int) (a1 : List Int) : Option Bool :=
  (r02_Split.f n a0).bind fun r1 => (r02_Split.f n a1).bind fun r2 => (bif (decide (r1.2.1 = (0 : Int))) then (some (decide (r2.2.1 = (0 : Int)))) else some false).bind fun g3 =>
  (bif g3 then (some (decide ((r2.1.length : Int) < (r1.1.length : Int)))) else some false).bind fun g4 =>
  (bif g4 then (sliceK 0 (r2.1.length : Int) r1.1.length ((r02_Same.f n (cut r1.1 0 (r2.1.length : Int)) r2.1).bind fun r6 => some r6)) else some false).bind fun g5 =>
  some g5
theorem r02_Below.ok (n : Nat) (a0 : List Int) (a1 : List Int) : evFn (r02_Below.c n) r02_Below.rs r02_Below.ps r02_Below.r (a0, a1, ()) = r02_Below.f n a0 a1 := by kernel_rfl
noncomputable def r02_Below.sp (n : Nat) : FSpec := { f := 13, ps := r02_Below.ps, r := r02_Below.r, run := fun x => r02_Below.f n x.1 x.2.1 }
theorem r02_Below.calls (n : Nat) : (r02_Below.c n).calls = [r02_Split.sp n, r02_Split.sp n, r02_Same.sp n] := by kernel_rfl
theorem r02_Below.fits (n : Nat) : fnB tab hd Tryd.f13 (r02_Below.c n) r02_Below.rs (r02_Below.sp n).ps (r02_Below.sp n).r = true := by kernel_rfl
theorem r02_Below.sound (n : Nat) : Sound Tryd.prog (r02_Below.sp n) := by
  refine fnB_sound tabOk eqFacts mixed (fn := Tryd.f13) (c := r02_Below.c n) (rs := r02_Below.rs) (by kernel_rfl) ?_ (r02_Below.fits n) ?_
  · rw [r02_Below.calls]
    intro s hs
    simp only [List.mem_cons, List.not_mem_nil, or_false] at hs
    rcases hs with rfl | rfl | rfl
    · exact r02_Split.meets n
    · exact r02_Split.meets n
    · exact r02_Same.meets n
  · rintro ⟨a0, a1, ⟨⟩⟩ y h
    exact (r02_Below.ok n a0 a1).trans h
theorem r02_Below.meets (n : Nat) : Meets Tryd.prog (r02_Below.sp n) := (r02_Below.sound n).meets
/-! backwater/backwaterlaw02.PathBelow -/
abbrev law02_PathBelow.ps : List (Ty × Bool) := [(.str, false), (.str, false), (.arr 2 (.slB .U false .str), false)]
abbrev law02_PathBelow.r : Ty := .bool
abbrev law02_PathBelow.rs : List RV := [.t 6]
abbrev law02_PathBelow.R : Type := (rtOf law02_PathBelow.ps law02_PathBelow.r).den
noncomputable def law02_PathBelow.d (n : Nat) : XC :=
  (.seq (.reg (.op (.boxv 5 (.t 2)) none <| .op (.mv 6 (.c ⟨.bool, (false : Bool)⟩)) none <| .nil)) <|
  (.seq (.regD (.op (.call (some 7) (law02_live.sp n) []) (some ([7], [7])) <| .op (.mv 8 (.t 7)) (some ([7, 8], [8])) <| .grp 8 true (.op (.mv 9 (.t 0)) (some ([0, 8, 9], [9])) <| .op (.mv 10 (.t 1)) (some ([1, 8, 10], [10])) <| .op (.call (some 11) (path_Below.sp n) [.v (.t 9), .v (.t 10)]) (some ([8, 9, 10, 11], [11])) <| .op (.mv 12 (.t 0)) (some ([0, 8, 12], [12])) <| .op (.mv 13 (.t 1)) (some ([1, 8, 13], [13])) <| .op (.call (some 14) (r02_Below.sp n) [.v (.t 12), .v (.t 13)]) (some ([8, 12, 13, 14], [14])) <| .op (.eqs 15 false (.t 11) (.t 14) .bool) (some ([8, 11, 14, 15], [15])) <| .nil) 15 16 [9, 10, 11, 12, 13, 14, 15] <| .op (.mv 17 (.t 16)) (some ([16, 17], [17])) <| .grp 17 true (.op (.idxA 18 (.t 5) (.c ⟨.int .i64, ((0 : Int) : Int)⟩) 1 2) (some ([5, 17, 18], [18])) <| .op (.ld 19 18 1 false) (some ([5, 17, 18, 19], [19])) <| .op (.idxA 20 (.t 5) (.c ⟨.int .i64, ((1 : Int) : Int)⟩) 1 2) (some ([5, 17, 20], [20])) <| .op (.ld 21 20 1 false) (some ([5, 17, 20, 21], [21])) <| .op (.call (some 22) (path_Same.sp n) [.v (.t 19), .v (.t 21)]) (some ([17, 19, 21, 22], [22])) <| .op (.idxA 23 (.t 5) (.c ⟨.int .i64, ((0 : Int) : Int)⟩) 1 2) (some ([5, 17, 23], [23])) <| .op (.ld 24 23 1 false) (some ([5, 17, 23, 24], [24])) <| .op (.idxA 25 (.t 5) (.c ⟨.int .i64, ((1 : Int) : Int)⟩) 1 2) (some ([5, 17, 25], [25])) <| .op (.ld 26 25 1 false) (some ([5, 17, 25, 26], [26])) <| .op (.call (some 27) (r02_Same.sp n) [.v (.t 24), .v (.t 26)]) (some ([17, 24, 26, 27], [27])) <| .op (.eqs 28 false (.t 22) (.t 27) .bool) (some ([17, 22, 27, 28], [28])) <| .nil) 28 29 [18, 19, 20, 21, 22, 23, 24, 25, 26, 27, 28] <| .op (.mv 6 (.t 29)) (some ([6, 29], [6])) <| .nil)) <|
  .ret))
noncomputable abbrev law02_PathBelow.c (n : Nat) : XC := law02_PathBelow.d n
noncomputable def law02_PathBelow.f (n : Nat) (a0 : List Int) (a1 : List Int) (a2 : List (List (List Int))) : Option Bool :=
  (law02_live.f n).bind fun r1 => (bif r1 then ((path_Below.f n a0 a1).bind fun r3 => (r02_Below.f n a0 a1).bind fun r4 => some (bbeq r3 r4)) else some false).bind fun g2 =>
  (bif g2 then (inK' (0 : Int) 2 ((lnth a2 (0 : Int)).bind fun e6 => inK' (1 : Int) 2 ((lnth a2 (1 : Int)).bind fun e7 => (path_Same.f n e6 e7).bind fun r8 => inK' (0 : Int) 2 ((lnth a2 (0 : Int)).bind fun e9 => inK' (1 : Int) 2 ((lnth a2 (1 : Int)).bind fun e10 => (r02_Same.f n e9 e10).bind fun r11 => some (bbeq r8 r11)))))) else some false).bind fun g5 =>
  some g5
theorem law02_PathBelow.ok (n : Nat) (a0 : List Int) (a1 : List Int) (a2 : List (List (List Int))) : evFn (law02_PathBelow.c n) law02_PathBelow.rs law02_PathBelow.ps law02_PathBelow.r (a0, a1, a2, ()) = law02_PathBelow.f n a0 a1 a2 := by kernel_rfl
noncomputable def law02_PathBelow.sp (n : Nat) : FSpec := { f := 4, ps := law02_PathBelow.ps, r := law02_PathBelow.r, run := fun x => law02_PathBelow.f n x.1 x.2.1 x.2.2.1 }
theorem law02_PathBelow.calls (n : Nat) : (law02_PathBelow.c n).calls = [law02_live.sp n, path_Below.sp n, r02_Below.sp n, path_Same.sp n, r02_Same.sp n] := by kernel_rfl
theorem law02_PathBelow.fits (n : Nat) : fnB tab hd Tryd.f4 (law02_PathBelow.c n) law02_PathBelow.rs (law02_PathBelow.sp n).ps (law02_PathBelow.sp n).r = true := by kernel_rfl
theorem law02_PathBelow.sound (n : Nat) : Sound Tryd.prog (law02_PathBelow.sp n) := by
  refine fnB_sound tabOk eqFacts mixed (fn := Tryd.f4) (c := law02_PathBelow.c n) (rs := law02_PathBelow.rs) (by kernel_rfl) ?_ (law02_PathBelow.fits n) ?_
  · rw [law02_PathBelow.calls]
    intro s hs
    simp only [List.mem_cons, List.not_mem_nil, or_false] at hs
    rcases hs with rfl | rfl | rfl | rfl | rfl
    · exact law02_live.meets n
    · exact path_Below.meets n
    · exact r02_Below.meets n
    · exact path_Same.meets n
    · exact r02_Same.meets n
  · rintro ⟨a0, a1, a2, ⟨⟩⟩ y h
    exact (law02_PathBelow.ok n a0 a1 a2).trans h
theorem law02_PathBelow.meets (n : Nat) : Meets Tryd.prog (law02_PathBelow.sp n) := (law02_PathBelow.sound n).meets
/-! backwater/backwaterref02.Join -/
abbrev r02_Join.ps : List (Ty × Bool) := [(.slB .U false .str, false)]
abbrev r02_Join.r : Ty := .tup (.pair .str (.pair (.int .i64) .unit))
abbrev r02_Join.rs : List RV := [.t 2, .t 3]
abbrev r02_Join.R : Type := (rtOf r02_Join.ps r02_Join.r).den
noncomputable def r02_Join.d1 (n : Nat) : XC :=
  (.seq (.reg (.op (.mv 31 (.t 4)) none <| .op (.mv 2 (.t 31)) none <| .op (.mv 3 (.c ⟨.int .i64, ((0 : Int) : Int)⟩)) none <| .nil)) <|
  .ret)
noncomputable abbrev r02_Join.c1 (n : Nat) : XC := r02_Join.d1 n
noncomputable def r02_Join.j1 (n : Nat) (x4 : List Int) : Option ((List Int) × Int × Unit) :=
  some (x4, (0 : Int), ())
theorem r02_Join.s1 (n : Nat) (x4 : List Int) : ev (r02_Join.c1 n) [(4, some ⟨.str, x4⟩)] (⟨retK r02_Join.rs r02_Join.ps r02_Join.r, []⟩ : Ks r02_Join.R) (retK r02_Join.rs r02_Join.ps r02_Join.r) = r02_Join.j1 n x4 := by kernel_rfl
noncomputable def r02_Join.H1 (n : Nat) (X : XC) : St → Option r02_Join.R := fun st => ghK [.keep [4]] st fun st => ev X st (⟨retK r02_Join.rs r02_Join.ps r02_Join.r, []⟩ : Ks r02_Join.R) (retK r02_Join.rs r02_Join.ps r02_Join.r)
noncomputable abbrev r02_Join.K1 (n : Nat) : St → Option r02_Join.R := r02_Join.H1 n (r02_Join.c1 n)
noncomputable def r02_Join.Kb2 (Kr2 : St → Option r02_Join.R) : St → Option r02_Join.R := fun st => ghK [.keep [0, 4, 5]] st Kr2
noncomputable def r02_Join.d3 (n : Nat) : XC :=
  (.aft (.reg (.op (.mv 10 (.t 5)) none <| .op (.bin 11 .add (.t 10) (.c ⟨.int .i64, ((1 : Int) : Int)⟩)) none <| .op (.mv 5 (.t 11)) none <| .nil)) [.keep [0, 4, 5]])
noncomputable abbrev r02_Join.c3 (n : Nat) : XC := r02_Join.d3 n
theorem r02_Join.qb2_0 (Kr2 : St → Option r02_Join.R) (kr2 : (List (List Int)) → (List Int) → Int → Option ((List Int) × Int × Unit)) (hK2 : ∀ (x0 : List (List Int)) (x4 : List Int) (x5 : Int), Kr2 [(0, some ⟨.slB .U false .str, x0⟩), (4, some ⟨.str, x4⟩), (5, some ⟨.int .i64, x5⟩)] = kr2 x0 x4 x5) (x0 : List (List Int)) (x4 : List Int) (x5 : Int) : r02_Join.Kb2 Kr2 [(0, some ⟨.slB .U false .str, x0⟩), (4, some ⟨.str, x4⟩), (5, some ⟨.int .i64, x5⟩)] = kr2 x0 x4 x5 := (by kernel_rfl : _ = Kr2 [(0, some ⟨.slB .U false .str, x0⟩), (4, some ⟨.str, x4⟩), (5, some ⟨.int .i64, x5⟩)]).trans (hK2 x0 x4 x5)
noncomputable def r02_Join.j3 (n : Nat) (kr2 : (List (List Int)) → (List Int) → Int → Option ((List Int) × Int × Unit)) (x0 : List (List Int)) (x4 : List Int) (x5 : Int) : Option ((List Int) × Int × Unit) :=
  kr2 x0 x4 (IntKind.i64.wrap (x5 + (1 : Int)))
theorem r02_Join.w3 (n : Nat) (Kr2 : St → Option r02_Join.R) (x0 : List (List Int)) (x4 : List Int) (x5 : Int) (K1 : St → Option r02_Join.R) (Kb2 : St → Option r02_Join.R) : ev (r02_Join.d3 n) [(0, some ⟨.slB .U false .str, x0⟩), (4, some ⟨.str, x4⟩), (5, some ⟨.int .i64, x5⟩)] (⟨retK r02_Join.rs r02_Join.ps r02_Join.r, [(0, K1)]⟩ : Ks r02_Join.R) Kb2 =
  (Kb2 [(0, some ⟨.slB .U false .str, x0⟩), (4, some ⟨.str, x4⟩), (5, some ⟨.int .i64, (IntKind.i64.wrap (x5 + (1 : Int)))⟩)] : Option r02_Join.R) := by kernel_rfl
theorem r02_Join.s3 (n : Nat) (Kr2 : St → Option r02_Join.R) (kr2 : (List (List Int)) → (List Int) → Int → Option ((List Int) × Int × Unit)) (hK2 : ∀ (x0 : List (List Int)) (x4 : List Int) (x5 : Int), Kr2 [(0, some ⟨.slB .U false .str, x0⟩), (4, some ⟨.str, x4⟩), (5, some ⟨.int .i64, x5⟩)] = kr2 x0 x4 x5) (x0 : List (List Int)) (x4 : List Int) (x5 : Int) : ev (r02_Join.c3 n) [(0, some ⟨.slB .U false .str, x0⟩), (4, some ⟨.str, x4⟩), (5, some ⟨.int .i64, x5⟩)] (⟨retK r02_Join.rs r02_Join.ps r02_Join.r, [(0, (r02_Join.K1 n))]⟩ : Ks r02_Join.R) (r02_Join.Kb2 Kr2) = r02_Join.j3 n kr2 x0 x4 x5 := (r02_Join.w3 n Kr2 x0 x4 x5 (r02_Join.K1 n) (r02_Join.Kb2 Kr2)).trans (by simp only [r02_Join.j3, r02_Join.qb2_0 Kr2 kr2 hK2] <;> kernel_rfl)
noncomputable def r02_Join.H3 (n : Nat) (K1 : St → Option r02_Join.R) (Kb2 : St → Option r02_Join.R) (X : XC) : St → Option r02_Join.R := fun st => ghK [.keep [0, 4, 5]] st fun st => ev X st (⟨retK r02_Join.rs r02_Join.ps r02_Join.r, [(0, K1)]⟩ : Ks r02_Join.R) Kb2
noncomputable abbrev r02_Join.K3 (n : Nat) (Kr2 : St → Option r02_Join.R) : St → Option r02_Join.R := r02_Join.H3 n (r02_Join.K1 n) (r02_Join.Kb2 Kr2) (r02_Join.c3 n)
noncomputable def r02_Join.d4 (n : Nat) : XC :=
  (.aft (.seq (.reg (.op (.mv 22 (.t 4)) none <| .op (.mv 23 (.t 0)) none <| .op (.mv 24 (.t 5)) none <| .op (.idxA 25 (.t 23) (.t 24) 1 0) none <| .op (.ld 26 25 1 false) none <| .op (.bin 27 .add (.t 22) (.t 26)) none <| .op (.mv 4 (.t 27)) none <| .nil)) <|
  (.seq (.reg (.op (.mv 28 (.t 4)) none <| .op (.len 29 (.t 28) true) none <| .op (.bin 30 .gtr (.t 29) (.c ⟨.int .i64, ((120 : Int) : Int)⟩)) none <| .nil)) <|
  (.cond (.t 30)
  (.seq (.pre [.keep []] (.reg (.op (.mv 2 (.c ⟨.str, (([] : List Int) : List Int)⟩)) none <| .op (.mv 3 (.c ⟨.int .i64, ((3 : Int) : Int)⟩)) none <| .nil))) <|
  .ret)
  .skip))) [.keep [0, 4, 5]])
noncomputable abbrev r02_Join.c4 (n : Nat) : XC := r02_Join.d4 n
theorem r02_Join.q3_0_r (n : Nat) (Kr2 : St → Option r02_Join.R) (K1 : St → Option r02_Join.R) (Kb2 : St → Option r02_Join.R) (X : XC) (x0 : List (List Int)) (x4 : List Int) (x5 : Int) : r02_Join.H3 n K1 Kb2 X [(0, some ⟨.slB .U false .str, x0⟩), (4, some ⟨.str, x4⟩), (5, some ⟨.int .i64, x5⟩)] = (ev X [(0, some ⟨.slB .U false .str, x0⟩), (4, some ⟨.str, x4⟩), (5, some ⟨.int .i64, x5⟩)] (⟨retK r02_Join.rs r02_Join.ps r02_Join.r, [(0, K1)]⟩ : Ks r02_Join.R) Kb2 : Option r02_Join.R) := by kernel_rfl
theorem r02_Join.q3_0 (n : Nat) (Kr2 : St → Option r02_Join.R) (kr2 : (List (List Int)) → (List Int) → Int → Option ((List Int) × Int × Unit)) (hK2 : ∀ (x0 : List (List Int)) (x4 : List Int) (x5 : Int), Kr2 [(0, some ⟨.slB .U false .str, x0⟩), (4, some ⟨.str, x4⟩), (5, some ⟨.int .i64, x5⟩)] = kr2 x0 x4 x5) (x0 : List (List Int)) (x4 : List Int) (x5 : Int) : r02_Join.K3 n Kr2 [(0, some ⟨.slB .U false .str, x0⟩), (4, some ⟨.str, x4⟩), (5, some ⟨.int .i64, x5⟩)] = r02_Join.j3 n kr2 x0 x4 x5 := (r02_Join.q3_0_r n Kr2 (r02_Join.K1 n) (r02_Join.Kb2 Kr2) (r02_Join.c3 n) x0 x4 x5).trans (r02_Join.s3 n Kr2 kr2 hK2 x0 x4 x5)
noncomputable def r02_Join.j4 (n : Nat) (kr2 : (List (List Int)) → (List Int) → Int → Option ((List Int) × Int × Unit)) (x0 : List (List Int)) (x4 : List Int) (x5 : Int) : Option ((List Int) × Int × Unit) :=
  idxK x0 x5 fun e1 => leK (x4.length + e1.length) maxLen (bif (decide ((120 : Int) < ((x4 ++ e1).length : Int))) then (some (([] : List Int), (3 : Int), ()))
  else (r02_Join.j3 n kr2 x0 (x4 ++ e1) x5))
theorem r02_Join.w4 (n : Nat) (Kr2 : St → Option r02_Join.R) (x0 : List (List Int)) (x4 : List Int) (x5 : Int) (K3 : St → Option r02_Join.R) (K1 : St → Option r02_Join.R) : ev (r02_Join.d4 n) [(0, some ⟨.slB .U false .str, x0⟩), (4, some ⟨.str, x4⟩), (5, some ⟨.int .i64, x5⟩)] (⟨retK r02_Join.rs r02_Join.ps r02_Join.r, [(1, K3), (0, K1)]⟩ : Ks r02_Join.R) K3 =
  (idxK x0 x5 fun e1 => leK (x4.length + e1.length) maxLen (bif (decide ((120 : Int) < ((x4 ++ e1).length : Int))) then (some (([] : List Int), (3 : Int), ()))
  else (K3 [(0, some ⟨.slB .U false .str, x0⟩), (4, some ⟨.str, ((x4 ++ e1) : List Int)⟩), (5, some ⟨.int .i64, x5⟩)])) : Option r02_Join.R) := by kernel_rfl
theorem r02_Join.s4 (n : Nat) (Kr2 : St → Option r02_Join.R) (kr2 : (List (List Int)) → (List Int) → Int → Option ((List Int) × Int × Unit)) (hK2 : ∀ (x0 : List (List Int)) (x4 : List Int) (x5 : Int), Kr2 [(0, some ⟨.slB .U false .str, x0⟩), (4, some ⟨.str, x4⟩), (5, some ⟨.int .i64, x5⟩)] = kr2 x0 x4 x5) (x0 : List (List Int)) (x4 : List Int) (x5 : Int) : ev (r02_Join.c4 n) [(0, some ⟨.slB .U false .str, x0⟩), (4, some ⟨.str, x4⟩), (5, some ⟨.int .i64, x5⟩)] (⟨retK r02_Join.rs r02_Join.ps r02_Join.r, [(1, (r02_Join.K3 n Kr2)), (0, (r02_Join.K1 n))]⟩ : Ks r02_Join.R) (r02_Join.K3 n Kr2) = r02_Join.j4 n kr2 x0 x4 x5 := (r02_Join.w4 n Kr2 x0 x4 x5 (r02_Join.K3 n Kr2) (r02_Join.K1 n)).trans (by simp only [r02_Join.j4, r02_Join.q3_0 n Kr2 kr2 hK2] <;> kernel_rfl)
noncomputable def r02_Join.H4 (n : Nat) (K3 : St → Option r02_Join.R) (K1 : St → Option r02_Join.R) (X : XC) : St → Option r02_Join.R := fun st => ghK [.keep [0, 4, 5]] st fun st => ev X st (⟨retK r02_Join.rs r02_Join.ps r02_Join.r, [(1, K3), (0, K1)]⟩ : Ks r02_Join.R) K3
noncomputable abbrev r02_Join.K4 (n : Nat) (Kr2 : St → Option r02_Join.R) : St → Option r02_Join.R := r02_Join.H4 n (r02_Join.K3 n Kr2) (r02_Join.K1 n) (r02_Join.c4 n)
noncomputable def r02_Join.db2 (n : Nat) (X3 X4 : XC) : XC :=
  (.aft (.seq (.seq (.reg (.op (.mv 6 (.t 5)) none <| .op (.mv 7 (.t 0)) none <| .op (.len 8 (.t 7) false) none <| .op (.bin 9 .lss (.t 6) (.t 8)) none <| .nil)) <|
  (.cond (.t 9)
  .skip
  (.pre [.keep [4]] (.exit 0)))) <|
  (.seq (.aft (.block 1 (.seq (.seq (.reg (.op (.mv 12 (.t 0)) none <| .op (.mv 13 (.t 5)) none <| .op (.idxA 14 (.t 12) (.t 13) 1 0) none <| .op (.ld 15 14 1 false) none <| .op (.call (some 16) (r02_Name.sp n) [.v (.t 15)]) none <| .op (.un 17 .not (.t 16)) none <| .nil)) <|
  (.cond (.t 17)
  (.seq (.pre [.keep []] (.reg (.op (.mv 2 (.c ⟨.str, (([] : List Int) : List Int)⟩)) none <| .op (.mv 3 (.c ⟨.int .i64, ((3 : Int) : Int)⟩)) none <| .nil))) <|
  .ret)
  .skip)) <|
  (.seq (.aft (.seq (.reg (.op (.mv 18 (.t 5)) none <| .op (.bin 19 .gtr (.t 18) (.c ⟨.int .i64, ((0 : Int) : Int)⟩)) none <| .nil)) <|
  (.cond (.t 19)
  (.pre [.keep [0, 4, 5]] (.reg (.op (.mv 20 (.t 4)) none <| .op (.bin 21 .add (.t 20) (.c ⟨.str, (([47] : List Int) : List Int)⟩)) none <| .op (.mv 4 (.t 21)) none <| .nil)))
  .skip)) [.keep [0, 4, 5]]) X4))) [.keep [0, 4, 5]]) X3)) [.keep [0, 4, 5]])
noncomputable abbrev r02_Join.cb2 (n : Nat) : XC := r02_Join.db2 n (r02_Join.c3 n) (r02_Join.c4 n)
theorem r02_Join.q1_0_r (n : Nat) (X : XC) (x4 : List Int) : r02_Join.H1 n X [(4, some ⟨.str, x4⟩)] = (ev X [(4, some ⟨.str, x4⟩)] (⟨retK r02_Join.rs r02_Join.ps r02_Join.r, []⟩ : Ks r02_Join.R) (retK r02_Join.rs r02_Join.ps r02_Join.r) : Option r02_Join.R) := by kernel_rfl
theorem r02_Join.q1_0 (n : Nat) (x4 : List Int) : r02_Join.K1 n [(4, some ⟨.str, x4⟩)] = r02_Join.j1 n x4 := (r02_Join.q1_0_r n (r02_Join.c1 n) x4).trans (r02_Join.s1 n x4)
noncomputable def r02_Join.l2 (n : Nat) : Nat → (List (List Int)) → (List Int) → Int → Option ((List Int) × Int × Unit)
  | 0, _, _, _ => none
  | k + 1, x0, x4, x5 =>
  bif (decide (x5 < (x0.length : Int))) then (idxK x0 x5 fun e1 => (r02_Name.f n e1).bind fun r2 => bif (!r2) then (some (([] : List Int), (3 : Int), ()))
  else (bif (decide ((0 : Int) < x5)) then (leK (x4.length + ([47] : List Int).length) maxLen (r02_Join.j4 n (r02_Join.l2 n k) x0 (x4 ++ ([47] : List Int)) x5))
  else (r02_Join.j4 n (r02_Join.l2 n k) x0 x4 x5)))
  else (r02_Join.j1 n x4)
theorem r02_Join.wb2 (n : Nat) (Kr2 : St → Option r02_Join.R) (x0 : List (List Int)) (x4 : List Int) (x5 : Int) (K1 : St → Option r02_Join.R) (X3 X4 : XC) : ev (r02_Join.db2 n X3 X4) (keepSt [(0, some ⟨.slB .U false .str, x0⟩), (4, some ⟨.str, x4⟩), (5, some ⟨.int .i64, x5⟩)] [0, 4, 5]) (⟨retK r02_Join.rs r02_Join.ps r02_Join.r, [(0, K1)]⟩ : Ks r02_Join.R) Kr2 =
  (bif (decide (x5 < (x0.length : Int))) then (idxK x0 x5 fun e1 => (r02_Name.f n e1).bind fun r2 => bif (!r2) then (some (([] : List Int), (3 : Int), ()))
  else (bif (decide ((0 : Int) < x5)) then (leK (x4.length + ([47] : List Int).length) maxLen (ev X4 [(0, some ⟨.slB .U false .str, x0⟩), (4, some ⟨.str, ((x4 ++ ([47] : List Int)) : List Int)⟩), (5, some ⟨.int .i64, x5⟩)] (⟨retK r02_Join.rs r02_Join.ps r02_Join.r, [(1, (r02_Join.H3 n K1 (r02_Join.Kb2 Kr2) X3)), (0, K1)]⟩ : Ks r02_Join.R) (r02_Join.H3 n K1 (r02_Join.Kb2 Kr2) X3)))
  else (ev X4 [(0, some ⟨.slB .U false .str, x0⟩), (4, some ⟨.str, x4⟩), (5, some ⟨.int .i64, x5⟩)] (⟨retK r02_Join.rs r02_Join.ps r02_Join.r, [(1, (r02_Join.H3 n K1 (r02_Join.Kb2 Kr2) X3)), (0, K1)]⟩ : Ks r02_Join.R) (r02_Join.H3 n K1 (r02_Join.Kb2 Kr2) X3))))
  else (K1 [(4, some ⟨.str, x4⟩)]) : Option r02_Join.R) := by kernel_rfl
theorem r02_Join.l2_ok (n : Nat) (k : Nat) : ∀ (x0 : List (List Int)) (x4 : List Int) (x5 : Int), loopEv [0, 4, 5] (fun s K => ev (r02_Join.cb2 n) s (⟨retK r02_Join.rs r02_Join.ps r02_Join.r, [(0, (r02_Join.K1 n))]⟩ : Ks r02_Join.R) K) k [(0, some ⟨.slB .U false .str, x0⟩), (4, some ⟨.str, x4⟩), (5, some ⟨.int .i64, x5⟩)] = r02_Join.l2 n k x0 x4 x5 := by
  induction k with
  | zero => intros; rfl
  | succ k ih =>
    intro x0 x4 x5
    exact (r02_Join.wb2 n (fun st => loopEv [0, 4, 5] (fun s K => ev (r02_Join.cb2 n) s (⟨retK r02_Join.rs r02_Join.ps r02_Join.r, [(0, (r02_Join.K1 n))]⟩ : Ks r02_Join.R) K) k st) x0 x4 x5 (r02_Join.K1 n) (r02_Join.c3 n) (r02_Join.c4 n)).trans (by simp only [r02_Join.l2, r02_Join.s4 n (fun st => loopEv [0, 4, 5] (fun s K => ev (r02_Join.cb2 n) s (⟨retK r02_Join.rs r02_Join.ps r02_Join.r, [(0, (r02_Join.K1 n))]⟩ : Ks r02_Join.R) K) k st) (r02_Join.l2 n k) ih, r02_Join.q1_0 n] <;> kernel_rfl)
noncomputable def r02_Join.d (n : Nat) (X1 Y2 : XC) : XC :=
  (.seq (.reg (.op (.mv 2 (.c ⟨.str, (([] : List Int) : List Int)⟩)) none <| .op (.mv 3 (.c ⟨.int .i64, ((0 : Int) : Int)⟩)) none <| .nil)) <|
  (.seq (.reg (.op (.mv 4 (.c ⟨.str, (([47] : List Int) : List Int)⟩)) none <| .nil)) <|
  (.seq (.aft (.seq (.reg (.op (.mv 5 (.c ⟨.int .i64, ((0 : Int) : Int)⟩)) none <| .nil)) <|
  (.block 0 (.pre [.keep [0, 4, 5]] (.loop n [0, 4, 5] Y2)))) [.keep [4]]) X1)))
noncomputable abbrev r02_Join.c (n : Nat) : XC := r02_Join.d n (r02_Join.c1 n) (r02_Join.cb2 n)
noncomputable def r02_Join.f (n : Nat) (a0 : List (List Int)) : Option ((List Int) × Int × Unit) :=
  r02_Join.l2 n n a0 ([47] : List Int) (0 : Int)
theorem r02_Join.w (n : Nat) (a0 : List (List Int)) (X1 Y2 : XC) : evFn (r02_Join.d n X1 Y2) r02_Join.rs r02_Join.ps r02_Join.r (a0, ()) =
  (loopEv [0, 4, 5] (fun s K => ev Y2 s (⟨retK r02_Join.rs r02_Join.ps r02_Join.r, [(0, (r02_Join.H1 n X1))]⟩ : Ks r02_Join.R) K) n [(0, some ⟨.slB .U false .str, a0⟩), (4, some ⟨.str, (([47] : List Int) : List Int)⟩), (5, some ⟨.int .i64, (0 : Int)⟩)] : Option r02_Join.R) := by kernel_rfl
theorem r02_Join.ok (n : Nat) (a0 : List (List Int)) : evFn (r02_Join.c n) r02_Join.rs r02_Join.ps r02_Join.r (a0, ()) = r02_Join.f n a0 := (r02_Join.w n a0 (r02_Join.c1 n) (r02_Join.cb2 n)).trans (by simp only [r02_Join.f, r02_Join.l2_ok n] <;> kernel_rfl)
noncomputable def r02_Join.sp (n : Nat) : FSpec := { f := 26, ps := r02_Join.ps, r := r02_Join.r, run := fun x => r02_Join.f n x.1 }
theorem r02_Join.calls (n : Nat) : (r02_Join.c n).calls = [r02_Name.sp n] := by kernel_rfl
theorem r02_Join.fits (n : Nat) : fnB tab hd Tryd.f26 (r02_Join.c n) r02_Join.rs (r02_Join.sp n).ps (r02_Join.sp n).r = true := by kernel_rfl
theorem r02_Join.sound (n : Nat) : Sound Tryd.prog (r02_Join.sp n) := by
  refine fnB_sound tabOk eqFacts mixed (fn := Tryd.f26) (c := r02_Join.c n) (rs := r02_Join.rs) (by kernel_rfl) ?_ (r02_Join.fits n) ?_
  · rw [r02_Join.calls]
    intro s hs
    simp only [List.mem_cons, List.not_mem_nil, or_false] at hs
    rcases hs with rfl
    · exact r02_Name.meets n
  · rintro ⟨a0, ⟨⟩⟩ y h
    exact (r02_Join.ok n a0).trans h
theorem r02_Join.meets (n : Nat) : Meets Tryd.prog (r02_Join.sp n) := (r02_Join.sound n).meets
/-! backwater/backwaterref02.Clean -/
abbrev r02_Clean.ps : List (Ty × Bool) := [(.str, false)]
abbrev r02_Clean.r : Ty := .tup (.pair .str (.pair (.int .i64) .unit))
abbrev r02_Clean.rs : List RV := [.t 2, .t 3]
abbrev r02_Clean.R : Type := (rtOf r02_Clean.ps r02_Clean.r).den
noncomputable def r02_Clean.d (n : Nat) : XC :=
  (.seq (.reg (.op (.mv 2 (.c ⟨.str, (([] : List Int) : List Int)⟩)) none <| .op (.mv 3 (.c ⟨.int .i64, ((0 : Int) : Int)⟩)) none <| .nil)) <|
  (.seq (.reg (.op (.mv 7 (.t 0)) none <| .op (.call (some 8) (r02_Split.sp n) [.v (.t 7)]) none <| .op (.take 6 8) none <| .op (.ext 9 6 0) none <| .op (.ext 10 6 1) none <| .op (.take 4 9) none <| .op (.mv 5 (.t 10)) none <| .nil)) <|
  (.seq (.seq (.reg (.op (.mv 11 (.t 5)) none <| .op (.bin 12 .neq (.t 11) (.c ⟨.int .i64, ((0 : Int) : Int)⟩)) none <| .nil)) <|
  (.cond (.t 12)
  (.seq (.reg (.op (.mv 13 (.t 5)) none <| .op (.mv 2 (.c ⟨.str, (([] : List Int) : List Int)⟩)) none <| .op (.mv 3 (.t 13)) none <| .nil)) <|
  .ret)
  .skip)) <|
  (.seq (.reg (.op (.bor 14 4) none <| .op (.call (some 15) (r02_Join.sp n) [.v (.t 14)]) none <| .op (.ext 16 15 0) none <| .op (.ext 17 15 1) none <| .op (.mv 2 (.t 16)) none <| .op (.mv 3 (.t 17)) none <| .nil)) <|
  .ret))))
noncomputable abbrev r02_Clean.c (n : Nat) : XC := r02_Clean.d n
noncomputable def r02_Clean.f (n : Nat) (a0 : List Int) : Option ((List Int) × Int × Unit) :=
  (r02_Split.f n a0).bind fun r1 => bif (!decide (r1.2.1 = (0 : Int))) then (some (([] : List Int), r1.2.1, ()))
  else ((r02_Join.f n r1.1).bind fun r2 => some (r2.1, r2.2.1, ()))
theorem r02_Clean.ok (n : Nat) (a0 : List Int) : evFn (r02_Clean.c n) r02_Clean.rs r02_Clean.ps r02_Clean.r (a0, ()) = r02_Clean.f n a0 := by kernel_rfl
noncomputable def r02_Clean.sp (n : Nat) : FSpec := { f := 16, ps := r02_Clean.ps, r := r02_Clean.r, run := fun x => r02_Clean.f n x.1 }
theorem r02_Clean.calls (n : Nat) : (r02_Clean.c n).calls = [r02_Split.sp n, r02_Join.sp n] := by kernel_rfl
theorem r02_Clean.fits (n : Nat) : fnB tab hd Tryd.f16 (r02_Clean.c n) r02_Clean.rs (r02_Clean.sp n).ps (r02_Clean.sp n).r = true := by kernel_rfl
theorem r02_Clean.sound (n : Nat) : Sound Tryd.prog (r02_Clean.sp n) := by
  refine fnB_sound tabOk eqFacts mixed (fn := Tryd.f16) (c := r02_Clean.c n) (rs := r02_Clean.rs) (by kernel_rfl) ?_ (r02_Clean.fits n) ?_
  · rw [r02_Clean.calls]
    intro s hs
    simp only [List.mem_cons, List.not_mem_nil, or_false] at hs
    rcases hs with rfl | rfl
    · exact r02_Split.meets n
    · exact r02_Join.meets n
  · rintro ⟨a0, ⟨⟩⟩ y h
    exact (r02_Clean.ok n a0).trans h
theorem r02_Clean.meets (n : Nat) : Meets Tryd.prog (r02_Clean.sp n) := (r02_Clean.sound n).meets
/-! backwater/backwaterref02.Dir -/
abbrev r02_Dir.ps : List (Ty × Bool) := [(.str, false)]
abbrev r02_Dir.r : Ty := .tup (.pair .str (.pair (.int .i64) .unit))
abbrev r02_Dir.rs : List RV := [.t 2, .t 3]
abbrev r02_Dir.R : Type := (rtOf r02_Dir.ps r02_Dir.r).den
noncomputable def r02_Dir.d (n : Nat) : XC :=
  (.seq (.reg (.op (.mv 2 (.c ⟨.str, (([] : List Int) : List Int)⟩)) none <| .op (.mv 3 (.c ⟨.int .i64, ((0 : Int) : Int)⟩)) none <| .nil)) <|
  (.seq (.reg (.op (.mv 7 (.t 0)) none <| .op (.call (some 8) (r02_Split.sp n) [.v (.t 7)]) none <| .op (.take 6 8) none <| .op (.ext 9 6 0) none <| .op (.ext 10 6 1) none <| .op (.take 4 9) none <| .op (.mv 5 (.t 10)) none <| .nil)) <|
  (.seq (.seq (.reg (.op (.mv 11 (.t 5)) none <| .op (.bin 12 .neq (.t 11) (.c ⟨.int .i64, ((0 : Int) : Int)⟩)) none <| .op (.mv 13 (.t 12)) none <| .grp 13 false (.op (.bor 14 4) (some ([4, 13, 14], [14])) <| .op (.len 15 (.t 14) false) (some ([4, 13, 14, 15], [15])) <| .op (.bin 16 .eql (.t 15) (.c ⟨.int .i64, ((0 : Int) : Int)⟩)) (some ([13, 15, 16], [16])) <| .nil) 16 17 [14, 15, 16] <| .nil)) <|
  (.cond (.t 17)
  (.seq (.pre [.keep []] (.reg (.op (.mv 2 (.c ⟨.str, (([] : List Int) : List Int)⟩)) none <| .op (.mv 3 (.c ⟨.int .i64, ((3 : Int) : Int)⟩)) none <| .nil))) <|
  .ret)
  .skip)) <|
  (.seq (.pre [.keep [4]] (.reg (.op (.bor 18 4) none <| .op (.bor 19 4) none <| .op (.len 20 (.t 19) false) none <| .op (.bin 21 .sub (.t 20) (.c ⟨.int .i64, ((1 : Int) : Int)⟩)) none <| .op (.slc 22 (.t 18) none (some (.t 21)) none 1) none <| .op (.call (some 23) (r02_Join.sp n) [.v (.t 22)]) none <| .op (.ext 24 23 0) none <| .op (.ext 25 23 1) none <| .op (.mv 2 (.t 24)) none <| .op (.mv 3 (.t 25)) none <| .nil))) <|
  .ret))))
noncomputable abbrev r02_Dir.c (n : Nat) : XC := r02_Dir.d n
noncomputable def r02_Dir.f (n : Nat) (a0 : List Int) : Option ((List Int) × Int × Unit) :=
  (r02_Split.f n a0).bind fun r1 => (bif (!decide (r1.2.1 = (0 : Int))) then some true else (some (decide ((r1.1.length : Int) = (0 : Int))))).bind fun g2 =>
  bif g2 then (some (([] : List Int), (3 : Int), ()))
  else (sliceK 0 (IntKind.i64.wrap ((r1.1.length : Int) - (1 : Int))) r1.1.length ((r02_Join.f n (cut r1.1 0 (IntKind.i64.wrap ((r1.1.length : Int) - (1 : Int))))).bind fun r3 => some (r3.1, r3.2.1, ())))
theorem r02_Dir.ok (n : Nat) (a0 : List Int) : evFn (r02_Dir.c n) r02_Dir.rs r02_Dir.ps r02_Dir.r (a0, ()) = r02_Dir.f n a0 := by kernel_rfl
noncomputable def r02_Dir.sp (n : Nat) : FSpec := { f := 18, ps := r02_Dir.ps, r := r02_Dir.r, run := fun x => r02_Dir.f n x.1 }
theorem r02_Dir.calls (n : Nat) : (r02_Dir.c n).calls = [r02_Split.sp n, r02_Join.sp n] := by kernel_rfl
theorem r02_Dir.fits (n : Nat) : fnB tab hd Tryd.f18 (r02_Dir.c n) r02_Dir.rs (r02_Dir.sp n).ps (r02_Dir.sp n).r = true := by kernel_rfl
theorem r02_Dir.sound (n : Nat) : Sound Tryd.prog (r02_Dir.sp n) := by
  refine fnB_sound tabOk eqFacts mixed (fn := Tryd.f18) (c := r02_Dir.c n) (rs := r02_Dir.rs) (by kernel_rfl) ?_ (r02_Dir.fits n) ?_
  · rw [r02_Dir.calls]
    intro s hs
    simp only [List.mem_cons, List.not_mem_nil, or_false] at hs
    rcases hs with rfl | rfl
    · exact r02_Split.meets n
    · exact r02_Join.meets n
  · rintro ⟨a0, ⟨⟩⟩ y h
    exact (r02_Dir.ok n a0).trans h
theorem r02_Dir.meets (n : Nat) : Meets Tryd.prog (r02_Dir.sp n) := (r02_Dir.sound n).meets
/-! backwater/path.Base -/
abbrev path_Base.ps : List (Ty × Bool) := [(.str, false)]
abbrev path_Base.r : Ty := .tup (.pair .str (.pair (.int .i64) .unit))
abbrev path_Base.rs : List RV := [.t 2, .t 3]
abbrev path_Base.R : Type := (rtOf path_Base.ps path_Base.r).den
noncomputable def path_Base.d (n : Nat) : XC :=
  (.seq (.reg (.op (.mv 2 (.c ⟨.str, (([] : List Int) : List Int)⟩)) none <| .op (.mv 3 (.c ⟨.int .i64, ((0 : Int) : Int)⟩)) none <| .nil)) <|
  (.seq (.reg (.op (.mv 8 (.t 0)) none <| .op (.call (some 9) (path_last.sp n) [.v (.t 8)]) none <| .op (.take 7 9) none <| .op (.ext 10 7 0) none <| .op (.ext 11 7 1) none <| .op (.ext 12 7 2) none <| .op (.mv 4 (.t 10)) none <| .op (.mv 5 (.t 11)) none <| .op (.mv 6 (.t 12)) none <| .nil)) <|
  (.seq (.reg (.op (.mv 13 (.t 5)) none <| .op (.mv 14 (.t 6)) none <| .op (.mv 2 (.t 13)) none <| .op (.mv 3 (.t 14)) none <| .nil)) <|
  .ret)))
noncomputable abbrev path_Base.c (n : Nat) : XC := path_Base.d n
noncomputable def path_Base.f (n : Nat) (a0 : List Int) : Option ((List Int) × Int × Unit) :=
  (path_last.f n a0).bind fun r1 => some (r1.2.1, r1.2.2.1, ())
theorem path_Base.ok (n : Nat) (a0 : List Int) : evFn (path_Base.c n) path_Base.rs path_Base.ps path_Base.r (a0, ()) = path_Base.f n a0 := by kernel_rfl
noncomputable def path_Base.sp (n : Nat) : FSpec := { f := 19, ps := path_Base.ps, r := path_Base.r, run := fun x => path_Base.f n x.1 }
theorem path_Base.calls (n : Nat) : (path_Base.c n).calls = [path_last.sp n] := by kernel_rfl
theorem path_Base.fits (n : Nat) : fnB tab hd Tryd.f19 (path_Base.c n) path_Base.rs (path_Base.sp n).ps (path_Base.sp n).r = true := by kernel_rfl
theorem path_Base.sound (n : Nat) : Sound Tryd.prog (path_Base.sp n) := by
  refine fnB_sound tabOk eqFacts mixed (fn := Tryd.f19) (c := path_Base.c n) (rs := path_Base.rs) (by kernel_rfl) ?_ (path_Base.fits n) ?_
  · rw [path_Base.calls]
    intro s hs
    simp only [List.mem_cons, List.not_mem_nil, or_false] at hs
    rcases hs with rfl
    · exact path_last.meets n
  · rintro ⟨a0, ⟨⟩⟩ y h
    exact (path_Base.ok n a0).trans h
theorem path_Base.meets (n : Nat) : Meets Tryd.prog (path_Base.sp n) := (path_Base.sound n).meets
/-! backwater/backwaterref02.Base -/
abbrev r02_Base.ps : List (Ty × Bool) := [(.str, false)]
abbrev r02_Base.r : Ty := .tup (.pair .str (.pair (.int .i64) .unit))
abbrev r02_Base.rs : List RV := [.t 2, .t 3]
abbrev r02_Base.R : Type := (rtOf r02_Base.ps r02_Base.r).den
noncomputable def r02_Base.d (n : Nat) : XC :=
  (.seq (.reg (.op (.mv 2 (.c ⟨.str, (([] : List Int) : List Int)⟩)) none <| .op (.mv 3 (.c ⟨.int .i64, ((0 : Int) : Int)⟩)) none <| .nil)) <|
  (.seq (.reg (.op (.mv 7 (.t 0)) none <| .op (.call (some 8) (r02_Split.sp n) [.v (.t 7)]) none <| .op (.take 6 8) none <| .op (.ext 9 6 0) none <| .op (.ext 10 6 1) none <| .op (.take 4 9) none <| .op (.mv 5 (.t 10)) none <| .nil)) <|
  (.seq (.seq (.reg (.op (.mv 11 (.t 5)) none <| .op (.bin 12 .neq (.t 11) (.c ⟨.int .i64, ((0 : Int) : Int)⟩)) none <| .op (.mv 13 (.t 12)) none <| .grp 13 false (.op (.bor 14 4) (some ([4, 13, 14], [14])) <| .op (.len 15 (.t 14) false) (some ([4, 13, 14, 15], [15])) <| .op (.bin 16 .eql (.t 15) (.c ⟨.int .i64, ((0 : Int) : Int)⟩)) (some ([13, 15, 16], [16])) <| .nil) 16 17 [14, 15, 16] <| .nil)) <|
  (.cond (.t 17)
  (.seq (.pre [.keep []] (.reg (.op (.mv 2 (.c ⟨.str, (([] : List Int) : List Int)⟩)) none <| .op (.mv 3 (.c ⟨.int .i64, ((3 : Int) : Int)⟩)) none <| .nil))) <|
  .ret)
  .skip)) <|
  (.seq (.pre [.keep [4]] (.reg (.op (.bor 18 4) none <| .op (.bor 19 4) none <| .op (.len 20 (.t 19) false) none <| .op (.bin 21 .sub (.t 20) (.c ⟨.int .i64, ((1 : Int) : Int)⟩)) none <| .op (.idxA 22 (.t 18) (.t 21) 1 0) none <| .op (.ld 23 22 1 false) none <| .op (.mv 2 (.t 23)) none <| .op (.mv 3 (.c ⟨.int .i64, ((0 : Int) : Int)⟩)) none <| .nil))) <|
  .ret))))
noncomputable abbrev r02_Base.c (n : Nat) : XC := r02_Base.d n
noncomputable def r02_Base.f (n : Nat) (a0 : List Int) : Option ((List Int) × Int × Unit) :=
  (r02_Split.f n a0).bind fun r1 => (bif (!decide (r1.2.1 = (0 : Int))) then some true else (some (decide ((r1.1.length : Int) = (0 : Int))))).bind fun g2 =>
  bif g2 then (some (([] : List Int), (3 : Int), ()))
  else (idxK r1.1 (IntKind.i64.wrap ((r1.1.length : Int) - (1 : Int))) fun e3 => some (e3, (0 : Int), ()))
theorem r02_Base.ok (n : Nat) (a0 : List Int) : evFn (r02_Base.c n) r02_Base.rs r02_Base.ps r02_Base.r (a0, ()) = r02_Base.f n a0 := by kernel_rfl
noncomputable def r02_Base.sp (n : Nat) : FSpec := { f := 20, ps := r02_Base.ps, r := r02_Base.r, run := fun x => r02_Base.f n x.1 }
theorem r02_Base.calls (n : Nat) : (r02_Base.c n).calls = [r02_Split.sp n] := by kernel_rfl
theorem r02_Base.fits (n : Nat) : fnB tab hd Tryd.f20 (r02_Base.c n) r02_Base.rs (r02_Base.sp n).ps (r02_Base.sp n).r = true := by kernel_rfl
theorem r02_Base.sound (n : Nat) : Sound Tryd.prog (r02_Base.sp n) := by
  refine fnB_sound tabOk eqFacts mixed (fn := Tryd.f20) (c := r02_Base.c n) (rs := r02_Base.rs) (by kernel_rfl) ?_ (r02_Base.fits n) ?_
  · rw [r02_Base.calls]
    intro s hs
    simp only [List.mem_cons, List.not_mem_nil, or_false] at hs
    rcases hs with rfl
    · exact r02_Split.meets n
  · rintro ⟨a0, ⟨⟩⟩ y h
    exact (r02_Base.ok n a0).trans h
theorem r02_Base.meets (n : Nat) : Meets Tryd.prog (r02_Base.sp n) := (r02_Base.sound n).meets
end Go.Proofs.YtfpmemeahnbmfaaDoor.S
