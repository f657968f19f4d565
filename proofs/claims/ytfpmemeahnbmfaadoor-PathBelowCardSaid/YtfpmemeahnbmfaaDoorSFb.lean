/- The functions of the seat: annotated code, shallow functions, and that each keeps its contract. Printed by pr.py. -/
import Derived.Test.YtfpmemeahnbmfaaDoorSFa
namespace Go.Proofs.YtfpmemeahnbmfaaDoor.S
open Go Go.Proofs Go.Proofs.Bw
set_option maxRecDepth 100000
set_option linter.unusedVariables false
/-! backwater/backwaterlaw02.PathForms -/
abbrev law02_PathForms.ps : List (Ty × Bool) := [(.str, false)]
abbrev law02_PathForms.r : Ty := .bool
abbrev law02_PathForms.rs : List RV := [.t 2]
abbrev law02_PathForms.R : Type := (rtOf law02_PathForms.ps law02_PathForms.r).den
noncomputable def law02_PathForms.d (n : Nat) : XC :=
  (.seq (.reg (.op (.mv 2 (.c ⟨.bool, (false : Bool)⟩)) none <| .nil)) <|
  (.seq (.reg (.op (.mv 16 (.t 0)) none <| .op (.call (some 17) (path_Clean.sp n) [.v (.t 16)]) none <| .op (.take 15 17) none <| .op (.ext 18 15 0) none <| .op (.ext 19 15 1) none <| .op (.mv 3 (.t 18)) none <| .op (.mv 4 (.t 19)) none <| .nil)) <|
  (.seq (.reg (.op (.mv 21 (.t 0)) none <| .op (.call (some 22) (r02_Clean.sp n) [.v (.t 21)]) none <| .op (.take 20 22) none <| .op (.ext 23 20 0) none <| .op (.ext 24 20 1) none <| .op (.mv 5 (.t 23)) none <| .op (.mv 6 (.t 24)) none <| .nil)) <|
  (.seq (.reg (.op (.mv 26 (.t 0)) none <| .op (.call (some 27) (path_Dir.sp n) [.v (.t 26)]) none <| .op (.take 25 27) none <| .op (.ext 28 25 0) none <| .op (.ext 29 25 1) none <| .op (.mv 7 (.t 28)) none <| .op (.mv 8 (.t 29)) none <| .nil)) <|
  (.seq (.pre [.keep [0, 3, 4, 5, 6, 7, 8]] (.reg (.op (.mv 31 (.t 0)) none <| .op (.call (some 32) (r02_Dir.sp n) [.v (.t 31)]) none <| .op (.take 30 32) none <| .op (.ext 33 30 0) none <| .op (.ext 34 30 1) none <| .op (.mv 9 (.t 33)) none <| .op (.mv 10 (.t 34)) none <| .nil))) <|
  (.seq (.reg (.op (.mv 36 (.t 0)) none <| .op (.call (some 37) (path_Base.sp n) [.v (.t 36)]) none <| .op (.take 35 37) none <| .op (.ext 38 35 0) none <| .op (.ext 39 35 1) none <| .op (.mv 11 (.t 38)) none <| .op (.mv 12 (.t 39)) none <| .nil)) <|
  (.seq (.reg (.op (.mv 41 (.t 0)) none <| .op (.call (some 42) (r02_Base.sp n) [.v (.t 41)]) none <| .op (.take 40 42) none <| .op (.ext 43 40 0) none <| .op (.ext 44 40 1) none <| .op (.mv 13 (.t 43)) none <| .op (.mv 14 (.t 44)) none <| .nil)) <|
  (.seq (.pre [.keep [3, 4, 5, 6, 7, 8, 9, 10, 11, 12, 13, 14]] (.reg (.op (.call (some 45) (law02_live.sp n) []) none <| .op (.mv 46 (.t 45)) none <| .grp 46 true (.op (.mv 47 (.t 3)) (some ([3, 46, 47], [47])) <| .op (.mv 48 (.t 5)) (some ([5, 46, 48], [48])) <| .op (.bin 49 .eql (.t 47) (.t 48)) (some ([46, 47, 48, 49], [49])) <| .nil) 49 50 [47, 48, 49] <| .op (.mv 51 (.t 50)) none <| .grp 51 true (.op (.mv 52 (.t 4)) (some ([4, 51, 52], [52])) <| .op (.mv 53 (.t 6)) (some ([6, 51, 53], [53])) <| .op (.bin 54 .eql (.t 52) (.t 53)) (some ([51, 52, 53, 54], [54])) <| .nil) 54 55 [52, 53, 54] <| .op (.mv 56 (.t 55)) none <| .grp 56 true (.op (.mv 57 (.t 7)) (some ([7, 56, 57], [57])) <| .op (.mv 58 (.t 9)) (some ([9, 56, 58], [58])) <| .op (.bin 59 .eql (.t 57) (.t 58)) (some ([56, 57, 58, 59], [59])) <| .nil) 59 60 [57, 58, 59] <| .op (.mv 61 (.t 60)) none <| .grp 61 true (.op (.mv 62 (.t 8)) (some ([8, 61, 62], [62])) <| .op (.mv 63 (.t 10)) (some ([10, 61, 63], [63])) <| .op (.bin 64 .eql (.t 62) (.t 63)) (some ([61, 62, 63, 64], [64])) <| .nil) 64 65 [62, 63, 64] <| .op (.mv 66 (.t 65)) none <| .grp 66 true (.op (.mv 67 (.t 11)) (some ([11, 66, 67], [67])) <| .op (.mv 68 (.t 13)) (some ([13, 66, 68], [68])) <| .op (.bin 69 .eql (.t 67) (.t 68)) (some ([66, 67, 68, 69], [69])) <| .nil) 69 70 [67, 68, 69] <| .op (.mv 71 (.t 70)) none <| .grp 71 true (.op (.mv 72 (.t 12)) (some ([12, 71, 72], [72])) <| .op (.mv 73 (.t 14)) (some ([14, 71, 73], [73])) <| .op (.bin 74 .eql (.t 72) (.t 73)) (some ([71, 72, 73, 74], [74])) <| .nil) 74 75 [72, 73, 74] <| .op (.mv 2 (.t 75)) none <| .nil))) <|
  .ret))))))))
noncomputable abbrev law02_PathForms.c (n : Nat) : XC := law02_PathForms.d n
noncomputable def law02_PathForms.f (n : Nat) (a0 : List Int) : Option Bool :=
  (path_Clean.f n a0).bind fun r1 => (r02_Clean.f n a0).bind fun r2 => (path_Dir.f n a0).bind fun r3 => (r02_Dir.f n a0).bind fun r4 => (path_Base.f n a0).bind fun r5 => (r02_Base.f n a0).bind fun r6 => (law02_live.f n).bind fun r7 => (bif r7 then (some (decide (r1.1 = r2.1))) else some false).bind fun g8 =>
  (bif g8 then (some (decide (r1.2.1 = r2.2.1))) else some false).bind fun g9 =>
  (bif g9 then (some (decide (r3.1 = r4.1))) else some false).bind fun g10 =>
  (bif g10 then (some (decide (r3.2.1 = r4.2.1))) else some false).bind fun g11 =>
  (bif g11 then (some (decide (r5.1 = r6.1))) else some false).bind fun g12 =>
  (bif g12 then (some (decide (r5.2.1 = r6.2.1))) else some false).bind fun g13 =>
  some g13
theorem law02_PathForms.ok (n : Nat) (a0 : List Int) : evFn (law02_PathForms.c n) law02_PathForms.rs law02_PathForms.ps law02_PathForms.r (a0, ()) = law02_PathForms.f n a0 := by kernel_rfl
noncomputable def law02_PathForms.sp (n : Nat) : FSpec := { f := 5, ps := law02_PathForms.ps, r := law02_PathForms.r, run := fun x => law02_PathForms.f n x.1 }
theorem law02_PathForms.calls (n : Nat) : (law02_PathForms.c n).calls = [path_Clean.sp n, r02_Clean.sp n, path_Dir.sp n, r02_Dir.sp n, path_Base.sp n, r02_Base.sp n, law02_live.sp n] := by kernel_rfl
theorem law02_PathForms.fits (n : Nat) : fnB tab hd Tryd.f5 (law02_PathForms.c n) law02_PathForms.rs (law02_PathForms.sp n).ps (law02_PathForms.sp n).r = true := by kernel_rfl
theorem law02_PathForms.sound (n : Nat) : Sound Tryd.prog (law02_PathForms.sp n) := by
  refine fnB_sound tabOk eqFacts mixed (fn := Tryd.f5) (c := law02_PathForms.c n) (rs := law02_PathForms.rs) (by kernel_rfl) ?_ (law02_PathForms.fits n) ?_
  · rw [law02_PathForms.calls]
    intro s hs
    simp only [List.mem_cons, List.not_mem_nil, or_false] at hs
    rcases hs with rfl | rfl | rfl | rfl | rfl | rfl | rfl
    · exact path_Clean.meets n
    · exact r02_Clean.meets n
    · exact path_Dir.meets n
    · exact r02_Dir.meets n
    · exact path_Base.meets n
    · exact r02_Base.meets n
    · exact law02_live.meets n
  · rintro ⟨a0, ⟨⟩⟩ y h
    exact (law02_PathForms.ok n a0).trans h
theorem law02_PathForms.meets (n : Nat) : Meets Tryd.prog (law02_PathForms.sp n) := (law02_PathForms.sound n).meets
end Go.Proofs.YtfpmemeahnbmfaaDoor.S
