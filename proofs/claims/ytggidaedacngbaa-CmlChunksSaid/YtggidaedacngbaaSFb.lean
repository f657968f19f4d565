/- The functions of the seat: annotated code, shallow functions, and that each keeps its contract. Printed by pr.py. -/
import Derived.Test.YtggidaedacngbaaSFa
namespace Go.Proofs.Ytggidaedacngbaa.S
open Go Go.Proofs Go.Proofs.Bw
set_option maxRecDepth 100000
set_option linter.unusedVariables false
/-! backwater/backwaterlaw08.CmlChunks -/
abbrev law08_CmlChunks.ps : List (Ty × Bool) := [(.slB .U false TRecord, false), (.int .u8, false)]
abbrev law08_CmlChunks.r : Ty := .bool
abbrev law08_CmlChunks.rs : List RV := [.t 4]
abbrev law08_CmlChunks.R : Type := (rtOf law08_CmlChunks.ps law08_CmlChunks.r).den
noncomputable def law08_CmlChunks.d1 (n : Nat) : XC :=
  (.seq (.reg (.op (.call (some 45) (law08_live.sp n) []) none <| .op (.mv 46 (.t 45)) none <| .grp 46 true (.op (.mv 47 (.t 6)) (some ([6, 46, 47], [47])) <| .op (.len 48 (.t 47) false) (some ([46, 47, 48], [48])) <| .op (.bin 49 .eql (.t 48) (.c ⟨.int .i64, ((0 : Int) : Int)⟩)) (some ([46, 48, 49], [49])) <| .nil) 49 50 [47, 48, 49] <| .op (.mv 51 (.t 50)) none <| .grp 51 true (.op (.bor 52 7) (some ([7, 51, 52], [52])) <| .op (.mv 53 (.t 0)) (some ([0, 51, 53], [53])) <| .op (.call (some 54) (cml_Same.sp n) [.v (.t 52), .v (.t 53)]) (some ([7, 51, 52, 53, 54], [54])) <| .nil) 54 55 [52, 53, 54] <| .op (.mv 4 (.t 55)) none <| .nil)) <|
  .ret)
noncomputable abbrev law08_CmlChunks.c1 (n : Nat) : XC := law08_CmlChunks.d1 n
noncomputable def law08_CmlChunks.j1 (n : Nat) (x0 : List DRecord) (x6 : List DRecord) (x7 : List DRecord) : Option Bool :=
  (law08_live.f n).bind fun r1 => (bif r1 then (some (decide ((x6.length : Int) = (0 : Int)))) else some false).bind fun g2 =>
  (bif g2 then ((cml_Same.f n x7 x0).bind fun r4 => some r4) else some false).bind fun g3 =>
  some g3
theorem law08_CmlChunks.s1 (n : Nat) (x0 : List DRecord) (x6 : List DRecord) (x7 : List DRecord) : ev (law08_CmlChunks.c1 n) [(0, some ⟨.slB .U false TRecord, x0⟩), (6, some ⟨.slB .U false TRecord, x6⟩), (7, some ⟨.slX .N TRecord, x7⟩)] (⟨retK law08_CmlChunks.rs law08_CmlChunks.ps law08_CmlChunks.r, []⟩ : Ks law08_CmlChunks.R) (retK law08_CmlChunks.rs law08_CmlChunks.ps law08_CmlChunks.r) = law08_CmlChunks.j1 n x0 x6 x7 := by kernel_rfl
noncomputable def law08_CmlChunks.H1 (n : Nat) (X : XC) : St → Option law08_CmlChunks.R := fun st => ghK [.keep [0, 6, 7]] st fun st => ev X st (⟨retK law08_CmlChunks.rs law08_CmlChunks.ps law08_CmlChunks.r, []⟩ : Ks law08_CmlChunks.R) (retK law08_CmlChunks.rs law08_CmlChunks.ps law08_CmlChunks.r)
noncomputable abbrev law08_CmlChunks.K1 (n : Nat) : St → Option law08_CmlChunks.R := law08_CmlChunks.H1 n (law08_CmlChunks.c1 n)
noncomputable def law08_CmlChunks.Kb2 (Kr2 : St → Option law08_CmlChunks.R) : St → Option law08_CmlChunks.R := fun st => ghK [.keep [0, 5, 6, 7, 8]] st Kr2
noncomputable def law08_CmlChunks.d3 (n : Nat) : XC :=
  (.aft (.reg (.op (.mv 24 (.t 8)) none <| .op (.bin 25 .add (.t 24) (.c ⟨.int .i64, ((1 : Int) : Int)⟩)) none <| .op (.mv 8 (.t 25)) none <| .nil)) [.keep [0, 5, 6, 7, 8]])
noncomputable abbrev law08_CmlChunks.c3 (n : Nat) : XC := law08_CmlChunks.d3 n
theorem law08_CmlChunks.qb2_0 (Kr2 : St → Option law08_CmlChunks.R) (kr2 : (List DRecord) → Int → (List DRecord) → (List DRecord) → Int → Option Bool) (hK2 : ∀ (x0 : List DRecord) (x5 : Int) (x6 : List DRecord) (x7 : List DRecord) (x8 : Int), Kr2 [(0, some ⟨.slB .U false TRecord, x0⟩), (5, some ⟨.int .i64, x5⟩), (6, some ⟨.slB .U false TRecord, x6⟩), (7, some ⟨.slX .N TRecord, x7⟩), (8, some ⟨.int .i64, x8⟩)] = kr2 x0 x5 x6 x7 x8) (x0 : List DRecord) (x5 : Int) (x6 : List DRecord) (x7 : List DRecord) (x8 : Int) : law08_CmlChunks.Kb2 Kr2 [(0, some ⟨.slB .U false TRecord, x0⟩), (5, some ⟨.int .i64, x5⟩), (6, some ⟨.slB .U false TRecord, x6⟩), (7, some ⟨.slX .N TRecord, x7⟩), (8, some ⟨.int .i64, x8⟩)] = kr2 x0 x5 x6 x7 x8 := (by kernel_rfl : _ = Kr2 [(0, some ⟨.slB .U false TRecord, x0⟩), (5, some ⟨.int .i64, x5⟩), (6, some ⟨.slB .U false TRecord, x6⟩), (7, some ⟨.slX .N TRecord, x7⟩), (8, some ⟨.int .i64, x8⟩)]).trans (hK2 x0 x5 x6 x7 x8)
noncomputable def law08_CmlChunks.j3 (n : Nat) (kr2 : (List DRecord) → Int → (List DRecord) → (List DRecord) → Int → Option Bool) (x0 : List DRecord) (x5 : Int) (x6 : List DRecord) (x7 : List DRecord) (x8 : Int) : Option Bool :=
  kr2 x0 x5 x6 x7 (IntKind.i64.wrap (x8 + (1 : Int)))
theorem law08_CmlChunks.w3 (n : Nat) (Kr2 : St → Option law08_CmlChunks.R) (x0 : List DRecord) (x5 : Int) (x6 : List DRecord) (x7 : List DRecord) (x8 : Int) (K1 : St → Option law08_CmlChunks.R) (Kb2 : St → Option law08_CmlChunks.R) : ev (law08_CmlChunks.d3 n) [(0, some ⟨.slB .U false TRecord, x0⟩), (5, some ⟨.int .i64, x5⟩), (6, some ⟨.slB .U false TRecord, x6⟩), (7, some ⟨.slX .N TRecord, x7⟩), (8, some ⟨.int .i64, x8⟩)] (⟨retK law08_CmlChunks.rs law08_CmlChunks.ps law08_CmlChunks.r, [(0, K1)]⟩ : Ks law08_CmlChunks.R) Kb2 =
  (Kb2 [(0, some ⟨.slB .U false TRecord, x0⟩), (5, some ⟨.int .i64, x5⟩), (6, some ⟨.slB .U false TRecord, x6⟩), (7, some ⟨.slX .N TRecord, x7⟩), (8, some ⟨.int .i64, (IntKind.i64.wrap (x8 + (1 : Int)))⟩)] : Option law08_CmlChunks.R) := by kernel_rfl
theorem law08_CmlChunks.s3 (n : Nat) (Kr2 : St → Option law08_CmlChunks.R) (kr2 : (List DRecord) → Int → (List DRecord) → (List DRecord) → Int → Option Bool) (hK2 : ∀ (x0 : List DRecord) (x5 : Int) (x6 : List DRecord) (x7 : List DRecord) (x8 : Int), Kr2 [(0, some ⟨.slB .U false TRecord, x0⟩), (5, some ⟨.int .i64, x5⟩), (6, some ⟨.slB .U false TRecord, x6⟩), (7, some ⟨.slX .N TRecord, x7⟩), (8, some ⟨.int .i64, x8⟩)] = kr2 x0 x5 x6 x7 x8) (x0 : List DRecord) (x5 : Int) (x6 : List DRecord) (x7 : List DRecord) (x8 : Int) : ev (law08_CmlChunks.c3 n) [(0, some ⟨.slB .U false TRecord, x0⟩), (5, some ⟨.int .i64, x5⟩), (6, some ⟨.slB .U false TRecord, x6⟩), (7, some ⟨.slX .N TRecord, x7⟩), (8, some ⟨.int .i64, x8⟩)] (⟨retK law08_CmlChunks.rs law08_CmlChunks.ps law08_CmlChunks.r, [(0, (law08_CmlChunks.K1 n))]⟩ : Ks law08_CmlChunks.R) (law08_CmlChunks.Kb2 Kr2) = law08_CmlChunks.j3 n kr2 x0 x5 x6 x7 x8 := (law08_CmlChunks.w3 n Kr2 x0 x5 x6 x7 x8 (law08_CmlChunks.K1 n) (law08_CmlChunks.Kb2 Kr2)).trans (by simp -implicitDefEqProofs only [law08_CmlChunks.j3, law08_CmlChunks.qb2_0 Kr2 kr2 hK2] <;> kernel_rfl)
noncomputable def law08_CmlChunks.H3 (n : Nat) (K1 : St → Option law08_CmlChunks.R) (Kb2 : St → Option law08_CmlChunks.R) (X : XC) : St → Option law08_CmlChunks.R := fun st => ghK [.keep [0, 5, 6, 7, 8]] st fun st => ev X st (⟨retK law08_CmlChunks.rs law08_CmlChunks.ps law08_CmlChunks.r, [(0, K1)]⟩ : Ks law08_CmlChunks.R) Kb2
noncomputable abbrev law08_CmlChunks.K3 (n : Nat) (Kr2 : St → Option law08_CmlChunks.R) : St → Option law08_CmlChunks.R := law08_CmlChunks.H3 n (law08_CmlChunks.K1 n) (law08_CmlChunks.Kb2 Kr2) (law08_CmlChunks.c3 n)
noncomputable def law08_CmlChunks.db2 (n : Nat) (X3 : XC) : XC :=
  (.aft (.seq (.seq (.reg (.op (.mv 17 (.t 8)) none <| .op (.bin 18 .lss (.t 17) (.c ⟨.int .i64, ((50 : Int) : Int)⟩)) none <| .op (.mv 19 (.t 18)) none <| .grp 19 true (.op (.mv 20 (.t 6)) (some ([6, 19, 20], [20])) <| .op (.len 21 (.t 20) false) (some ([19, 20, 21], [21])) <| .op (.bin 22 .gtr (.t 21) (.c ⟨.int .i64, ((0 : Int) : Int)⟩)) (some ([19, 21, 22], [22])) <| .nil) 22 23 [20, 21, 22] <| .nil)) <|
  (.cond (.t 23)
  .skip
  (.pre [.keep [0, 6, 7]] (.exit 0)))) <|
  (.seq (.aft (.block 1 (.seq (.reg (.op (.mv 26 (.t 6)) none <| .op (.mv 27 (.t 5)) none <| .op (.call (some 28) (cml_Cut.sp n) [.v (.t 26), .v (.t 27)]) none <| .op (.take 9 28) none <| .nil)) <|
  (.seq (.seq (.reg (.op (.bor 29 9) none <| .op (.len 30 (.t 29) false) none <| .op (.bin 31 .eql (.t 30) (.c ⟨.int .i64, ((0 : Int) : Int)⟩)) none <| .op (.mv 32 (.t 31)) none <| .grp 32 false (.op (.bor 33 9) (some ([9, 32, 33], [33])) <| .op (.len 34 (.t 33) false) (some ([9, 32, 33, 34], [34])) <| .op (.mv 35 (.t 5)) (some ([5, 32, 35], [35])) <| .op (.bin 36 .gtr (.t 34) (.t 35)) (some ([32, 34, 35, 36], [36])) <| .nil) 36 37 [33, 34, 35, 36] <| .nil)) <|
  (.cond (.t 37)
  (.seq (.pre [.keep []] (.reg (.op (.mv 4 (.c ⟨.bool, (false : Bool)⟩)) none <| .nil))) <|
  .ret)
  .skip)) <|
  (.seq (.pre [.keep [0, 5, 6, 7, 8, 9]] (.reg (.op (.take 38 7) none <| .op (.bor 39 9) none <| .op (.app 40 38 (.t 39) 88 9) none <| .op (.take 7 40) none <| .nil))) <|
  (.reg (.op (.mv 41 (.t 6)) none <| .op (.bor 42 9) none <| .op (.len 43 (.t 42) false) none <| .op (.call (some 44) (cml_Drop.sp n) [.v (.t 41), .v (.t 43)]) none <| .op (.frz 6 44) none <| .nil)))))) [.keep [0, 5, 6, 7, 8]]) X3)) [.keep [0, 5, 6, 7, 8]])
noncomputable abbrev law08_CmlChunks.cb2 (n : Nat) : XC := law08_CmlChunks.db2 n (law08_CmlChunks.c3 n)
theorem law08_CmlChunks.q1_0_r (n : Nat) (X : XC) (x0 : List DRecord) (x6 : List DRecord) (x7 : List DRecord) : law08_CmlChunks.H1 n X [(0, some ⟨.slB .U false TRecord, x0⟩), (6, some ⟨.slB .U false TRecord, x6⟩), (7, some ⟨.slX .N TRecord, x7⟩)] = (ev X [(0, some ⟨.slB .U false TRecord, x0⟩), (6, some ⟨.slB .U false TRecord, x6⟩), (7, some ⟨.slX .N TRecord, x7⟩)] (⟨retK law08_CmlChunks.rs law08_CmlChunks.ps law08_CmlChunks.r, []⟩ : Ks law08_CmlChunks.R) (retK law08_CmlChunks.rs law08_CmlChunks.ps law08_CmlChunks.r) : Option law08_CmlChunks.R) := by kernel_rfl
theorem law08_CmlChunks.q1_0 (n : Nat) (x0 : List DRecord) (x6 : List DRecord) (x7 : List DRecord) : law08_CmlChunks.K1 n [(0, some ⟨.slB .U false TRecord, x0⟩), (6, some ⟨.slB .U false TRecord, x6⟩), (7, some ⟨.slX .N TRecord, x7⟩)] = law08_CmlChunks.j1 n x0 x6 x7 := (law08_CmlChunks.q1_0_r n (law08_CmlChunks.c1 n) x0 x6 x7).trans (law08_CmlChunks.s1 n x0 x6 x7)
noncomputable def law08_CmlChunks.l2 (n : Nat) : Nat → (List DRecord) → Int → (List DRecord) → (List DRecord) → Int → Option Bool
  | 0, _, _, _, _, _ => none
  | k + 1, x0, x5, x6, x7, x8 =>
  (bif (decide (x8 < (50 : Int))) then (some (decide ((0 : Int) < (x6.length : Int)))) else some false).bind fun g1 =>
  bif g1 then ((cml_Cut.f n x6 x5).bind fun r2 => (bif (decide ((r2.length : Int) = (0 : Int))) then some true else (some (decide (x5 < (r2.length : Int))))).bind fun g3 =>
  bif g3 then (some false)
  else (appK x7.length r2.length 88 ((cml_Drop.f n x6 (r2.length : Int)).bind fun r4 => law08_CmlChunks.j3 n (law08_CmlChunks.l2 n k) x0 x5 r4 (x7 ++ r2) x8)))
  else (law08_CmlChunks.j1 n x0 x6 x7)
theorem law08_CmlChunks.wb2 (n : Nat) (Kr2 : St → Option law08_CmlChunks.R) (x0 : List DRecord) (x5 : Int) (x6 : List DRecord) (x7 : List DRecord) (x8 : Int) (K1 : St → Option law08_CmlChunks.R) (X3 : XC) : ev (law08_CmlChunks.db2 n X3) (keepSt [(0, some ⟨.slB .U false TRecord, x0⟩), (5, some ⟨.int .i64, x5⟩), (6, some ⟨.slB .U false TRecord, x6⟩), (7, some ⟨.slX .N TRecord, x7⟩), (8, some ⟨.int .i64, x8⟩)] [0, 5, 6, 7, 8]) (⟨retK law08_CmlChunks.rs law08_CmlChunks.ps law08_CmlChunks.r, [(0, K1)]⟩ : Ks law08_CmlChunks.R) Kr2 =
  ((bif (decide (x8 < (50 : Int))) then (some (decide ((0 : Int) < (x6.length : Int)))) else some false).bind fun g1 =>
  bif g1 then ((cml_Cut.f n x6 x5).bind fun r2 => (bif (decide ((r2.length : Int) = (0 : Int))) then some true else (some (decide (x5 < (r2.length : Int))))).bind fun g3 =>
  bif g3 then (some false)
  else (appK x7.length r2.length 88 ((cml_Drop.f n x6 (r2.length : Int)).bind fun r4 => ev X3 [(0, some ⟨.slB .U false TRecord, x0⟩), (5, some ⟨.int .i64, x5⟩), (6, some ⟨.slB .U false TRecord, r4⟩), (7, some ⟨.slX .N TRecord, ((x7 ++ r2) : List DRecord)⟩), (8, some ⟨.int .i64, x8⟩)] (⟨retK law08_CmlChunks.rs law08_CmlChunks.ps law08_CmlChunks.r, [(0, K1)]⟩ : Ks law08_CmlChunks.R) (law08_CmlChunks.Kb2 Kr2))))
  else (K1 [(0, some ⟨.slB .U false TRecord, x0⟩), (6, some ⟨.slB .U false TRecord, x6⟩), (7, some ⟨.slX .N TRecord, x7⟩)]) : Option law08_CmlChunks.R) := by kernel_rfl
theorem law08_CmlChunks.l2_ok (n : Nat) (k : Nat) : ∀ (x0 : List DRecord) (x5 : Int) (x6 : List DRecord) (x7 : List DRecord) (x8 : Int), loopEv [0, 5, 6, 7, 8] (fun s K => ev (law08_CmlChunks.cb2 n) s (⟨retK law08_CmlChunks.rs law08_CmlChunks.ps law08_CmlChunks.r, [(0, (law08_CmlChunks.K1 n))]⟩ : Ks law08_CmlChunks.R) K) k [(0, some ⟨.slB .U false TRecord, x0⟩), (5, some ⟨.int .i64, x5⟩), (6, some ⟨.slB .U false TRecord, x6⟩), (7, some ⟨.slX .N TRecord, x7⟩), (8, some ⟨.int .i64, x8⟩)] = law08_CmlChunks.l2 n k x0 x5 x6 x7 x8 := by
  induction k with
  | zero => intros; rfl
  | succ k ih =>
    intro x0 x5 x6 x7 x8
    exact (law08_CmlChunks.wb2 n (fun st => loopEv [0, 5, 6, 7, 8] (fun s K => ev (law08_CmlChunks.cb2 n) s (⟨retK law08_CmlChunks.rs law08_CmlChunks.ps law08_CmlChunks.r, [(0, (law08_CmlChunks.K1 n))]⟩ : Ks law08_CmlChunks.R) K) k st) x0 x5 x6 x7 x8 (law08_CmlChunks.K1 n) (law08_CmlChunks.c3 n)).trans (by simp -implicitDefEqProofs only [law08_CmlChunks.l2, law08_CmlChunks.s3 n (fun st => loopEv [0, 5, 6, 7, 8] (fun s K => ev (law08_CmlChunks.cb2 n) s (⟨retK law08_CmlChunks.rs law08_CmlChunks.ps law08_CmlChunks.r, [(0, (law08_CmlChunks.K1 n))]⟩ : Ks law08_CmlChunks.R) K) k st) (law08_CmlChunks.l2 n k) ih, law08_CmlChunks.q1_0 n] <;> kernel_rfl)
noncomputable def law08_CmlChunks.d (n : Nat) (X1 Y2 : XC) : XC :=
  (.seq (.reg (.op (.mv 4 (.c ⟨.bool, (false : Bool)⟩)) none <| .nil)) <|
  (.seq (.reg (.op (.mv 10 (.t 0)) none <| .op (.call (some 11) (law08_few.sp n) [.v (.t 10)]) none <| .op (.mv 0 (.t 11)) none <| .nil)) <|
  (.seq (.reg (.op (.mv 12 (.t 1)) none <| .op (.cvt 13 (.int .i64) (.t 12)) none <| .op (.bin 14 .rem (.t 13) (.c ⟨.int .i64, ((8 : Int) : Int)⟩)) none <| .op (.bin 15 .add (.t 14) (.c ⟨.int .i64, ((1 : Int) : Int)⟩)) none <| .op (.mv 5 (.t 15)) none <| .nil)) <|
  (.seq (.reg (.op (.mv 16 (.t 0)) none <| .op (.mv 6 (.t 16)) none <| .nil)) <|
  (.seq (.reg (.op (.mv 7 (.c ⟨.nil 0, ()⟩)) none <| .nil)) <|
  (.seq (.aft (.seq (.reg (.op (.mv 8 (.c ⟨.int .i64, ((0 : Int) : Int)⟩)) none <| .nil)) <|
  (.block 0 (.pre [.coe 7 (.slX .N TRecord), .keep [0, 5, 6, 7, 8]] (.loop n [0, 5, 6, 7, 8] Y2)))) [.keep [0, 6, 7]]) X1))))))
noncomputable abbrev law08_CmlChunks.c (n : Nat) : XC := law08_CmlChunks.d n (law08_CmlChunks.c1 n) (law08_CmlChunks.cb2 n)
noncomputable def law08_CmlChunks.f (n : Nat) (a0 : List DRecord) (a1 : Int) : Option Bool :=
  (law08_few.f n a0).bind fun r1 => nzK (8 : Int) (law08_CmlChunks.l2 n n r1 (IntKind.i64.wrap ((Int.tmod (IntKind.i64.wrap a1) (8 : Int)) + (1 : Int))) r1 ([] : List DRecord) (0 : Int))
theorem law08_CmlChunks.w (n : Nat) (a0 : List DRecord) (a1 : Int) (X1 Y2 : XC) : evFn (law08_CmlChunks.d n X1 Y2) law08_CmlChunks.rs law08_CmlChunks.ps law08_CmlChunks.r (a0, a1, ()) =
  ((law08_few.f n a0).bind fun r1 => nzK (8 : Int) (loopEv [0, 5, 6, 7, 8] (fun s K => ev Y2 s (⟨retK law08_CmlChunks.rs law08_CmlChunks.ps law08_CmlChunks.r, [(0, (law08_CmlChunks.H1 n X1))]⟩ : Ks law08_CmlChunks.R) K) n [(0, some ⟨.slB .U false TRecord, r1⟩), (5, some ⟨.int .i64, (IntKind.i64.wrap ((Int.tmod (IntKind.i64.wrap a1) (8 : Int)) + (1 : Int)))⟩), (6, some ⟨.slB .U false TRecord, r1⟩), (7, some ⟨.slX .N TRecord, (([] : List DRecord) : List DRecord)⟩), (8, some ⟨.int .i64, (0 : Int)⟩)]) : Option law08_CmlChunks.R) := by kernel_rfl
theorem law08_CmlChunks.ok (n : Nat) (a0 : List DRecord) (a1 : Int) : evFn (law08_CmlChunks.c n) law08_CmlChunks.rs law08_CmlChunks.ps law08_CmlChunks.r (a0, a1, ()) = law08_CmlChunks.f n a0 a1 := (law08_CmlChunks.w n a0 a1 (law08_CmlChunks.c1 n) (law08_CmlChunks.cb2 n)).trans (by simp -implicitDefEqProofs only [law08_CmlChunks.f, law08_CmlChunks.l2_ok n] <;> kernel_rfl)
noncomputable def law08_CmlChunks.sp (n : Nat) : FSpec := { f := 6, ps := law08_CmlChunks.ps, r := law08_CmlChunks.r, run := fun x => law08_CmlChunks.f n x.1 x.2.1 }
theorem law08_CmlChunks.calls (n : Nat) : (law08_CmlChunks.c n).calls = [law08_few.sp n, cml_Cut.sp n, cml_Drop.sp n, law08_live.sp n, cml_Same.sp n] := by kernel_rfl
theorem law08_CmlChunks.fits (n : Nat) : fnB tab hd Try.f6 (law08_CmlChunks.c n) law08_CmlChunks.rs (law08_CmlChunks.sp n).ps (law08_CmlChunks.sp n).r = true := by kernel_rfl
theorem law08_CmlChunks.sound (n : Nat) : Sound Try.prog (law08_CmlChunks.sp n) := by
  refine fnB_sound tabOk eqFacts mixed (fn := Try.f6) (c := law08_CmlChunks.c n) (rs := law08_CmlChunks.rs) (by kernel_rfl) ?_ (law08_CmlChunks.fits n) ?_
  · rw [law08_CmlChunks.calls]
    intro s hs
    simp only [List.mem_cons, List.not_mem_nil, or_false] at hs
    rcases hs with rfl | rfl | rfl | rfl | rfl
    · exact law08_few.meets n
    · exact cml_Cut.meets n
    · exact cml_Drop.meets n
    · exact law08_live.meets n
    · exact cml_Same.meets n
  · rintro ⟨a0, a1, ⟨⟩⟩ y h
    exact (law08_CmlChunks.ok n a0 a1).trans h
theorem law08_CmlChunks.meets (n : Nat) : Meets Try.prog (law08_CmlChunks.sp n) := (law08_CmlChunks.sound n).meets
/-! backwater/backwaterref08.needed -/
abbrev r08_needed.ps : List (Ty × Bool) := [(.slB .U false TRecord, false), (.int .i64, false)]
abbrev r08_needed.r : Ty := .bool
abbrev r08_needed.rs : List RV := [.t 4]
abbrev r08_needed.R : Type := (rtOf r08_needed.ps r08_needed.r).den
noncomputable def r08_needed.d1 (n : Nat) : XC :=
  (.seq (.reg (.op (.mv 4 (.c ⟨.bool, (true : Bool)⟩)) none <| .nil)) <|
  .ret)
noncomputable abbrev r08_needed.c1 (n : Nat) : XC := r08_needed.d1 n
noncomputable def r08_needed.j1 (n : Nat)  : Option Bool :=
  some true
theorem r08_needed.s1 (n : Nat)  : ev (r08_needed.c1 n) [] (⟨retK r08_needed.rs r08_needed.ps r08_needed.r, []⟩ : Ks r08_needed.R) (retK r08_needed.rs r08_needed.ps r08_needed.r) = r08_needed.j1 n  := by kernel_rfl
noncomputable def r08_needed.H1 (n : Nat) (X : XC) : St → Option r08_needed.R := fun st => ghK [.keep []] st fun st => ev X st (⟨retK r08_needed.rs r08_needed.ps r08_needed.r, []⟩ : Ks r08_needed.R) (retK r08_needed.rs r08_needed.ps r08_needed.r)
noncomputable abbrev r08_needed.K1 (n : Nat) : St → Option r08_needed.R := r08_needed.H1 n (r08_needed.c1 n)
noncomputable def r08_needed.Kb2 (Kr2 : St → Option r08_needed.R) : St → Option r08_needed.R := fun st => ghK [.keep [0, 1, 5, 6]] st Kr2
noncomputable def r08_needed.d3 (n : Nat) : XC :=
  (.aft (.reg (.op (.mv 25 (.t 6)) none <| .op (.bin 26 .add (.t 25) (.c ⟨.int .i64, ((1 : Int) : Int)⟩)) none <| .op (.mv 6 (.t 26)) none <| .nil)) [.keep [0, 1, 5, 6]])
noncomputable abbrev r08_needed.c3 (n : Nat) : XC := r08_needed.d3 n
theorem r08_needed.qb2_0 (Kr2 : St → Option r08_needed.R) (kr2 : (List DRecord) → Int → Int → Int → Option Bool) (hK2 : ∀ (x0 : List DRecord) (x1 : Int) (x5 : Int) (x6 : Int), Kr2 [(0, some ⟨.slB .U false TRecord, x0⟩), (1, some ⟨.int .i64, x1⟩), (5, some ⟨.int .u8, x5⟩), (6, some ⟨.int .i64, x6⟩)] = kr2 x0 x1 x5 x6) (x0 : List DRecord) (x1 : Int) (x5 : Int) (x6 : Int) : r08_needed.Kb2 Kr2 [(0, some ⟨.slB .U false TRecord, x0⟩), (1, some ⟨.int .i64, x1⟩), (5, some ⟨.int .u8, x5⟩), (6, some ⟨.int .i64, x6⟩)] = kr2 x0 x1 x5 x6 := (by kernel_rfl : _ = Kr2 [(0, some ⟨.slB .U false TRecord, x0⟩), (1, some ⟨.int .i64, x1⟩), (5, some ⟨.int .u8, x5⟩), (6, some ⟨.int .i64, x6⟩)]).trans (hK2 x0 x1 x5 x6)
noncomputable def r08_needed.j3 (n : Nat) (kr2 : (List DRecord) → Int → Int → Int → Option Bool) (x0 : List DRecord) (x1 : Int) (x5 : Int) (x6 : Int) : Option Bool :=
  kr2 x0 x1 x5 (IntKind.i64.wrap (x6 + (1 : Int)))
theorem r08_needed.w3 (n : Nat) (Kr2 : St → Option r08_needed.R) (x0 : List DRecord) (x1 : Int) (x5 : Int) (x6 : Int) (K1 : St → Option r08_needed.R) (Kb2 : St → Option r08_needed.R) : ev (r08_needed.d3 n) [(0, some ⟨.slB .U false TRecord, x0⟩), (1, some ⟨.int .i64, x1⟩), (5, some ⟨.int .u8, x5⟩), (6, some ⟨.int .i64, x6⟩)] (⟨retK r08_needed.rs r08_needed.ps r08_needed.r, [(0, K1)]⟩ : Ks r08_needed.R) Kb2 =
  (Kb2 [(0, some ⟨.slB .U false TRecord, x0⟩), (1, some ⟨.int .i64, x1⟩), (5, some ⟨.int .u8, x5⟩), (6, some ⟨.int .i64, (IntKind.i64.wrap (x6 + (1 : Int)))⟩)] : Option r08_needed.R) := by kernel_rfl
theorem r08_needed.s3 (n : Nat) (Kr2 : St → Option r08_needed.R) (kr2 : (List DRecord) → Int → Int → Int → Option Bool) (hK2 : ∀ (x0 : List DRecord) (x1 : Int) (x5 : Int) (x6 : Int), Kr2 [(0, some ⟨.slB .U false TRecord, x0⟩), (1, some ⟨.int .i64, x1⟩), (5, some ⟨.int .u8, x5⟩), (6, some ⟨.int .i64, x6⟩)] = kr2 x0 x1 x5 x6) (x0 : List DRecord) (x1 : Int) (x5 : Int) (x6 : Int) : ev (r08_needed.c3 n) [(0, some ⟨.slB .U false TRecord, x0⟩), (1, some ⟨.int .i64, x1⟩), (5, some ⟨.int .u8, x5⟩), (6, some ⟨.int .i64, x6⟩)] (⟨retK r08_needed.rs r08_needed.ps r08_needed.r, [(0, (r08_needed.K1 n))]⟩ : Ks r08_needed.R) (r08_needed.Kb2 Kr2) = r08_needed.j3 n kr2 x0 x1 x5 x6 := (r08_needed.w3 n Kr2 x0 x1 x5 x6 (r08_needed.K1 n) (r08_needed.Kb2 Kr2)).trans (by simp -implicitDefEqProofs only [r08_needed.j3, r08_needed.qb2_0 Kr2 kr2 hK2] <;> kernel_rfl)
noncomputable def r08_needed.H3 (n : Nat) (K1 : St → Option r08_needed.R) (Kb2 : St → Option r08_needed.R) (X : XC) : St → Option r08_needed.R := fun st => ghK [.keep [0, 1, 5, 6]] st fun st => ev X st (⟨retK r08_needed.rs r08_needed.ps r08_needed.r, [(0, K1)]⟩ : Ks r08_needed.R) Kb2
noncomputable abbrev r08_needed.K3 (n : Nat) (Kr2 : St → Option r08_needed.R) : St → Option r08_needed.R := r08_needed.H3 n (r08_needed.K1 n) (r08_needed.Kb2 Kr2) (r08_needed.c3 n)
noncomputable def r08_needed.db2 (n : Nat) (X3 : XC) : XC :=
  (.aft (.seq (.seq (.reg (.op (.mv 21 (.t 6)) none <| .op (.mv 22 (.t 0)) none <| .op (.len 23 (.t 22) false) none <| .op (.bin 24 .lss (.t 21) (.t 23)) none <| .nil)) <|
  (.cond (.t 24)
  .skip
  (.pre [.keep []] (.exit 0)))) <|
  (.seq (.aft (.block 1 (.seq (.regD (.op (.mv 27 (.t 0)) (some ([0, 27], [27])) <| .op (.mv 28 (.t 6)) (some ([6, 28], [28])) <| .op (.idxA 29 (.t 27) (.t 28) 9 0) (some ([27, 28, 29], [29])) <| .op (.fa 30 29 0 0) (some ([29, 30], [30])) <| .op (.fa 31 30 0 0) (some ([30, 31], [31])) <| .op (.ld 32 31 1 false) (some ([31, 32], [32])) <| .op (.mv 33 (.t 5)) (some ([5, 33], [33])) <| .op (.bin 34 .eql (.t 32) (.t 33)) (some ([32, 33, 34], [34])) <| .op (.mv 35 (.t 34)) (some ([34, 35], [35])) <| .grp 35 true (.op (.mv 36 (.t 0)) (some ([0, 35, 36], [36])) <| .op (.mv 37 (.t 6)) (some ([6, 35, 37], [37])) <| .op (.idxA 38 (.t 36) (.t 37) 9 0) (some ([35, 36, 37, 38], [38])) <| .op (.fa 39 38 0 0) (some ([35, 38, 39], [39])) <| .op (.fa 40 39 1 1) (some ([35, 39, 40], [40])) <| .op (.ld 41 40 1 false) (some ([35, 40, 41], [41])) <| .op (.mv 42 (.t 0)) (some ([0, 35, 42], [42])) <| .op (.mv 43 (.t 1)) (some ([1, 35, 43], [43])) <| .op (.idxA 44 (.t 42) (.t 43) 9 0) (some ([35, 42, 43, 44], [44])) <| .op (.fa 45 44 0 0) (some ([35, 44, 45], [45])) <| .op (.fa 46 45 1 1) (some ([35, 45, 46], [46])) <| .op (.ld 47 46 1 false) (some ([35, 46, 47], [47])) <| .op (.bin 48 .eql (.t 41) (.t 47)) (some ([35, 41, 47, 48], [48])) <| .nil) 48 49 [36, 37, 38, 39, 40, 41, 42, 43, 44, 45, 46, 47, 48] <| .nil)) <|
  (.cond (.t 49)
  (.seq (.pre [.keep []] (.reg (.op (.mv 4 (.c ⟨.bool, (false : Bool)⟩)) none <| .nil))) <|
  .ret)
  .skip))) [.keep [0, 1, 5, 6]]) X3)) [.keep [0, 1, 5, 6]])
noncomputable abbrev r08_needed.cb2 (n : Nat) : XC := r08_needed.db2 n (r08_needed.c3 n)
theorem r08_needed.q1_0_r (n : Nat) (X : XC)  : r08_needed.H1 n X [] = (ev X [] (⟨retK r08_needed.rs r08_needed.ps r08_needed.r, []⟩ : Ks r08_needed.R) (retK r08_needed.rs r08_needed.ps r08_needed.r) : Option r08_needed.R) := by kernel_rfl
theorem r08_needed.q1_0 (n : Nat)  : r08_needed.K1 n [] = r08_needed.j1 n  := (r08_needed.q1_0_r n (r08_needed.c1 n) ).trans (r08_needed.s1 n )
noncomputable def r08_needed.l2 (n : Nat) : Nat → (List DRecord) → Int → Int → Int → Option Bool
  | 0, _, _, _, _ => none
  | k + 1, x0, x1, x5, x6 =>
  bif (decide (x6 < (x0.length : Int))) then (idxK x0 x6 fun e1 => (bif (decide (e1.1.1 = x5)) then (idxK x0 x6 fun e3 => idxK x0 x1 fun e4 => some (decide (e3.1.2.1 = e4.1.2.1))) else some false).bind fun g2 =>
  bif g2 then (some false)
  else (r08_needed.j3 n (r08_needed.l2 n k) x0 x1 x5 x6))
  else (r08_needed.j1 n )
theorem r08_needed.wb2 (n : Nat) (Kr2 : St → Option r08_needed.R) (x0 : List DRecord) (x1 : Int) (x5 : Int) (x6 : Int) (K1 : St → Option r08_needed.R) (X3 : XC) : ev (r08_needed.db2 n X3) (keepSt [(0, some ⟨.slB .U false TRecord, x0⟩), (1, some ⟨.int .i64, x1⟩), (5, some ⟨.int .u8, x5⟩), (6, some ⟨.int .i64, x6⟩)] [0, 1, 5, 6]) (⟨retK r08_needed.rs r08_needed.ps r08_needed.r, [(0, K1)]⟩ : Ks r08_needed.R) Kr2 =
  (bif (decide (x6 < (x0.length : Int))) then (idxK x0 x6 fun e1 => (bif (decide (e1.1.1 = x5)) then (idxK x0 x6 fun e3 => idxK x0 x1 fun e4 => some (decide (e3.1.2.1 = e4.1.2.1))) else some false).bind fun g2 =>
  bif g2 then (some false)
  else (ev X3 [(0, some ⟨.slB .U false TRecord, x0⟩), (1, some ⟨.int .i64, x1⟩), (5, some ⟨.int .u8, x5⟩), (6, some ⟨.int .i64, x6⟩)] (⟨retK r08_needed.rs r08_needed.ps r08_needed.r, [(0, K1)]⟩ : Ks r08_needed.R) (r08_needed.Kb2 Kr2)))
  else (K1 []) : Option r08_needed.R) := by kernel_rfl
theorem r08_needed.l2_ok (n : Nat) (k : Nat) : ∀ (x0 : List DRecord) (x1 : Int) (x5 : Int) (x6 : Int), loopEv [0, 1, 5, 6] (fun s K => ev (r08_needed.cb2 n) s (⟨retK r08_needed.rs r08_needed.ps r08_needed.r, [(0, (r08_needed.K1 n))]⟩ : Ks r08_needed.R) K) k [(0, some ⟨.slB .U false TRecord, x0⟩), (1, some ⟨.int .i64, x1⟩), (5, some ⟨.int .u8, x5⟩), (6, some ⟨.int .i64, x6⟩)] = r08_needed.l2 n k x0 x1 x5 x6 := by
  induction k with
  | zero => intros; rfl
  | succ k ih =>
    intro x0 x1 x5 x6
    exact (r08_needed.wb2 n (fun st => loopEv [0, 1, 5, 6] (fun s K => ev (r08_needed.cb2 n) s (⟨retK r08_needed.rs r08_needed.ps r08_needed.r, [(0, (r08_needed.K1 n))]⟩ : Ks r08_needed.R) K) k st) x0 x1 x5 x6 (r08_needed.K1 n) (r08_needed.c3 n)).trans (by simp -implicitDefEqProofs only [r08_needed.l2, r08_needed.s3 n (fun st => loopEv [0, 1, 5, 6] (fun s K => ev (r08_needed.cb2 n) s (⟨retK r08_needed.rs r08_needed.ps r08_needed.r, [(0, (r08_needed.K1 n))]⟩ : Ks r08_needed.R) K) k st) (r08_needed.l2 n k) ih, r08_needed.q1_0 n] <;> kernel_rfl)
noncomputable def r08_needed.d (n : Nat) (X1 Y2 : XC) : XC :=
  (.seq (.reg (.op (.mv 4 (.c ⟨.bool, (false : Bool)⟩)) none <| .nil)) <|
  (.seq (.reg (.op (.mv 7 (.t 0)) none <| .op (.mv 8 (.t 1)) none <| .op (.idxA 9 (.t 7) (.t 8) 9 0) none <| .op (.fa 10 9 0 0) none <| .op (.fa 11 10 0 0) none <| .op (.ld 12 11 1 false) none <| .op (.mv 5 (.t 12)) none <| .nil)) <|
  (.seq (.seq (.reg (.op (.mv 13 (.t 5)) none <| .op (.bin 14 .neq (.t 13) (.c ⟨.int .u8, ((8 : Int) : Int)⟩)) none <| .op (.mv 15 (.t 14)) none <| .grp 15 true (.op (.mv 16 (.t 5)) (some ([5, 15, 16], [16])) <| .op (.bin 17 .neq (.t 16) (.c ⟨.int .u8, ((9 : Int) : Int)⟩)) (some ([15, 16, 17], [17])) <| .nil) 17 18 [16, 17] <| .nil)) <|
  (.cond (.t 18)
  (.seq (.pre [.keep []] (.reg (.op (.mv 4 (.c ⟨.bool, (true : Bool)⟩)) none <| .nil))) <|
  .ret)
  .skip)) <|
  (.seq (.aft (.seq (.pre [.keep [0, 1, 5]] (.reg (.op (.mv 19 (.t 1)) none <| .op (.bin 20 .add (.t 19) (.c ⟨.int .i64, ((1 : Int) : Int)⟩)) none <| .op (.mv 6 (.t 20)) none <| .nil))) <|
  (.block 0 (.pre [.keep [0, 1, 5, 6]] (.loop n [0, 1, 5, 6] Y2)))) [.keep []]) X1))))
noncomputable abbrev r08_needed.c (n : Nat) : XC := r08_needed.d n (r08_needed.c1 n) (r08_needed.cb2 n)
noncomputable def r08_needed.f (n : Nat) (a0 : List DRecord) (a1 : Int) : Option Bool :=
  idxK a0 a1 fun e1 => (bif (!decide (e1.1.1 = (8 : Int))) then (some (!decide (e1.1.1 = (9 : Int)))) else some false).bind fun g2 =>
  bif g2 then (some true)
  else (r08_needed.l2 n n a0 a1 e1.1.1 (IntKind.i64.wrap (a1 + (1 : Int))))
theorem r08_needed.w (n : Nat) (a0 : List DRecord) (a1 : Int) (X1 Y2 : XC) : evFn (r08_needed.d n X1 Y2) r08_needed.rs r08_needed.ps r08_needed.r (a0, a1, ()) =
  (idxK a0 a1 fun e1 => (bif (!decide (e1.1.1 = (8 : Int))) then (some (!decide (e1.1.1 = (9 : Int)))) else some false).bind fun g2 =>
  bif g2 then (some true)
  else (loopEv [0, 1, 5, 6] (fun s K => ev Y2 s (⟨retK r08_needed.rs r08_needed.ps r08_needed.r, [(0, (r08_needed.H1 n X1))]⟩ : Ks r08_needed.R) K) n [(0, some ⟨.slB .U false TRecord, a0⟩), (1, some ⟨.int .i64, a1⟩), (5, some ⟨.int .u8, e1.1.1⟩), (6, some ⟨.int .i64, (IntKind.i64.wrap (a1 + (1 : Int)))⟩)]) : Option r08_needed.R) := by kernel_rfl
theorem r08_needed.ok (n : Nat) (a0 : List DRecord) (a1 : Int) : evFn (r08_needed.c n) r08_needed.rs r08_needed.ps r08_needed.r (a0, a1, ()) = r08_needed.f n a0 a1 := (r08_needed.w n a0 a1 (r08_needed.c1 n) (r08_needed.cb2 n)).trans (by simp -implicitDefEqProofs only [r08_needed.f, r08_needed.l2_ok n] <;> kernel_rfl)
noncomputable def r08_needed.sp (n : Nat) : FSpec := { f := 35, ps := r08_needed.ps, r := r08_needed.r, run := fun x => r08_needed.f n x.1 x.2.1 }
theorem r08_needed.calls (n : Nat) : (r08_needed.c n).calls = [] := by kernel_rfl
theorem r08_needed.fits (n : Nat) : fnB tab hd Try.f35 (r08_needed.c n) r08_needed.rs (r08_needed.sp n).ps (r08_needed.sp n).r = true := by kernel_rfl
theorem r08_needed.sound (n : Nat) : Sound Try.prog (r08_needed.sp n) := by
  refine fnB_sound tabOk eqFacts mixed (fn := Try.f35) (c := r08_needed.c n) (rs := r08_needed.rs) (by kernel_rfl) ?_ (r08_needed.fits n) ?_
  · rw [r08_needed.calls]
    intro s hs; cases hs
  · rintro ⟨a0, a1, ⟨⟩⟩ y h
    exact (r08_needed.ok n a0 a1).trans h
theorem r08_needed.meets (n : Nat) : Meets Try.prog (r08_needed.sp n) := (r08_needed.sound n).meets
/-! backwater/backwaterref06.Names -/
abbrev r06_Names.ps : List (Ty × Bool) := [(TOp, false)]
abbrev r06_Names.r : Ty := .slX .N (.int .u32)
abbrev r06_Names.rs : List RV := [.t 2]
abbrev r06_Names.R : Type := (rtOf r06_Names.ps r06_Names.r).den
noncomputable def r06_Names.d3 (n : Nat) : XC :=
  (.seq (.reg (.op (.take 28 3) none <| .op (.take 2 28) none <| .nil)) <|
  .ret)
noncomputable abbrev r06_Names.c3 (n : Nat) : XC := r06_Names.d3 n
noncomputable def r06_Names.j3 (n : Nat) (x3 : List Int) : Option (List Int) :=
  some x3
theorem r06_Names.s3 (n : Nat) (x3 : List Int) : ev (r06_Names.c3 n) [(3, some ⟨.slX .N (.int .u32), x3⟩)] (⟨retK r06_Names.rs r06_Names.ps r06_Names.r, []⟩ : Ks r06_Names.R) (retK r06_Names.rs r06_Names.ps r06_Names.r) = r06_Names.j3 n x3 := by kernel_rfl
noncomputable def r06_Names.H3 (n : Nat) (X : XC) : St → Option r06_Names.R := fun st => ghK [.keep [3]] st fun st => ev X st (⟨retK r06_Names.rs r06_Names.ps r06_Names.r, []⟩ : Ks r06_Names.R) (retK r06_Names.rs r06_Names.ps r06_Names.r)
noncomputable abbrev r06_Names.K3 (n : Nat) : St → Option r06_Names.R := r06_Names.H3 n (r06_Names.c3 n)
noncomputable def r06_Names.d2 (n : Nat) (X3 : XC) : XC :=
  (.seq (.aft (.seq (.reg (.op (.fa 20 1 4 4) none <| .op (.ld 21 20 1 false) none <| .op (.bin 22 .neq (.t 21) (.c ⟨.int .u32, ((0 : Int) : Int)⟩)) none <| .nil)) <|
  (.cond (.t 22)
  (.reg (.op (.take 23 3) none <| .op (.fa 24 1 4 4) none <| .op (.ld 25 24 1 false) none <| .op (.bsl 26 (.int .u32) [(.t 25)]) none <| .op (.app 27 23 (.t 26) 4 1) none <| .op (.take 3 27) none <| .nil))
  .skip)) [.keep [3]]) X3)
noncomputable abbrev r06_Names.c2 (n : Nat) : XC := r06_Names.d2 n (r06_Names.c3 n)
noncomputable def r06_Names.j2 (n : Nat) (x1 : DOp) (x3 : List Int) : Option (List Int) :=
  bif (!decide (x1.2.2.2.2.1 = (0 : Int))) then (appK x3.length ([x1.2.2.2.2.1] : List Int).length 4 (r06_Names.j3 n (x3 ++ ([x1.2.2.2.2.1] : List Int))))
  else (r06_Names.j3 n x3)
theorem r06_Names.w2 (n : Nat) (x1 : DOp) (x3 : List Int) (X3 : XC) : ev (r06_Names.d2 n X3) [(1, some ⟨.box TOp, x1⟩), (3, some ⟨.slX .N (.int .u32), x3⟩)] (⟨retK r06_Names.rs r06_Names.ps r06_Names.r, []⟩ : Ks r06_Names.R) (retK r06_Names.rs r06_Names.ps r06_Names.r) =
  (bif (!decide (x1.2.2.2.2.1 = (0 : Int))) then (appK x3.length ([x1.2.2.2.2.1] : List Int).length 4 (ev X3 [(3, some ⟨.slX .N (.int .u32), ((x3 ++ ([x1.2.2.2.2.1] : List Int)) : List Int)⟩)] (⟨retK r06_Names.rs r06_Names.ps r06_Names.r, []⟩ : Ks r06_Names.R) (retK r06_Names.rs r06_Names.ps r06_Names.r)))
  else (ev X3 [(3, some ⟨.slX .N (.int .u32), x3⟩)] (⟨retK r06_Names.rs r06_Names.ps r06_Names.r, []⟩ : Ks r06_Names.R) (retK r06_Names.rs r06_Names.ps r06_Names.r)) : Option r06_Names.R) := by kernel_rfl
theorem r06_Names.s2 (n : Nat) (x1 : DOp) (x3 : List Int) : ev (r06_Names.c2 n) [(1, some ⟨.box TOp, x1⟩), (3, some ⟨.slX .N (.int .u32), x3⟩)] (⟨retK r06_Names.rs r06_Names.ps r06_Names.r, []⟩ : Ks r06_Names.R) (retK r06_Names.rs r06_Names.ps r06_Names.r) = r06_Names.j2 n x1 x3 := (r06_Names.w2 n x1 x3 (r06_Names.c3 n)).trans (by simp -implicitDefEqProofs only [r06_Names.j2, r06_Names.s3 n] <;> kernel_rfl)
noncomputable def r06_Names.H2 (n : Nat) (X : XC) : St → Option r06_Names.R := fun st => ghK [.keep [1, 3]] st fun st => ev X st (⟨retK r06_Names.rs r06_Names.ps r06_Names.r, []⟩ : Ks r06_Names.R) (retK r06_Names.rs r06_Names.ps r06_Names.r)
noncomputable abbrev r06_Names.K2 (n : Nat) : St → Option r06_Names.R := r06_Names.H2 n (r06_Names.c2 n)
noncomputable def r06_Names.d1 (n : Nat) (X2 : XC) : XC :=
  (.seq (.aft (.seq (.reg (.op (.fa 12 1 2 2) none <| .op (.ld 13 12 1 false) none <| .op (.bin 14 .neq (.t 13) (.c ⟨.int .u32, ((0 : Int) : Int)⟩)) none <| .nil)) <|
  (.cond (.t 14)
  (.reg (.op (.take 15 3) none <| .op (.fa 16 1 2 2) none <| .op (.ld 17 16 1 false) none <| .op (.bsl 18 (.int .u32) [(.t 17)]) none <| .op (.app 19 15 (.t 18) 4 1) none <| .op (.take 3 19) none <| .nil))
  .skip)) [.keep [1, 3]]) X2)
noncomputable abbrev r06_Names.c1 (n : Nat) : XC := r06_Names.d1 n (r06_Names.c2 n)
noncomputable def r06_Names.j1 (n : Nat) (x1 : DOp) (x3 : List Int) : Option (List Int) :=
  bif (!decide (x1.2.2.1 = (0 : Int))) then (appK x3.length ([x1.2.2.1] : List Int).length 4 (r06_Names.j2 n (x1.1, x1.2.1, x1.2.2.1, x1.2.2.2.1, x1.2.2.2.2.1, x1.2.2.2.2.2.1, x1.2.2.2.2.2.2.1, x1.2.2.2.2.2.2.2.1, x1.2.2.2.2.2.2.2.2) (x3 ++ ([x1.2.2.1] : List Int))))
  else (r06_Names.j2 n (x1.1, x1.2.1, x1.2.2.1, x1.2.2.2.1, x1.2.2.2.2.1, x1.2.2.2.2.2.1, x1.2.2.2.2.2.2.1, x1.2.2.2.2.2.2.2.1, x1.2.2.2.2.2.2.2.2) x3)
theorem r06_Names.w1 (n : Nat) (x1 : DOp) (x3 : List Int) (X2 : XC) : ev (r06_Names.d1 n X2) [(1, some ⟨.box TOp, x1⟩), (3, some ⟨.slX .N (.int .u32), x3⟩)] (⟨retK r06_Names.rs r06_Names.ps r06_Names.r, []⟩ : Ks r06_Names.R) (retK r06_Names.rs r06_Names.ps r06_Names.r) =
  (bif (!decide (x1.2.2.1 = (0 : Int))) then (appK x3.length ([x1.2.2.1] : List Int).length 4 (ev X2 [(1, some ⟨.box TOp, ((x1.1, x1.2.1, x1.2.2.1, x1.2.2.2.1, x1.2.2.2.2.1, x1.2.2.2.2.2.1, x1.2.2.2.2.2.2.1, x1.2.2.2.2.2.2.2.1, x1.2.2.2.2.2.2.2.2) : DOp)⟩), (3, some ⟨.slX .N (.int .u32), ((x3 ++ ([x1.2.2.1] : List Int)) : List Int)⟩)] (⟨retK r06_Names.rs r06_Names.ps r06_Names.r, []⟩ : Ks r06_Names.R) (retK r06_Names.rs r06_Names.ps r06_Names.r)))
  else (ev X2 [(1, some ⟨.box TOp, ((x1.1, x1.2.1, x1.2.2.1, x1.2.2.2.1, x1.2.2.2.2.1, x1.2.2.2.2.2.1, x1.2.2.2.2.2.2.1, x1.2.2.2.2.2.2.2.1, x1.2.2.2.2.2.2.2.2) : DOp)⟩), (3, some ⟨.slX .N (.int .u32), x3⟩)] (⟨retK r06_Names.rs r06_Names.ps r06_Names.r, []⟩ : Ks r06_Names.R) (retK r06_Names.rs r06_Names.ps r06_Names.r)) : Option r06_Names.R) := by kernel_rfl
theorem r06_Names.s1 (n : Nat) (x1 : DOp) (x3 : List Int) : ev (r06_Names.c1 n) [(1, some ⟨.box TOp, x1⟩), (3, some ⟨.slX .N (.int .u32), x3⟩)] (⟨retK r06_Names.rs r06_Names.ps r06_Names.r, []⟩ : Ks r06_Names.R) (retK r06_Names.rs r06_Names.ps r06_Names.r) = r06_Names.j1 n x1 x3 := (r06_Names.w1 n x1 x3 (r06_Names.c2 n)).trans (by simp -implicitDefEqProofs only [r06_Names.j1, r06_Names.s2 n] <;> kernel_rfl)
noncomputable def r06_Names.H1 (n : Nat) (X : XC) : St → Option r06_Names.R := fun st => ghK [.coe 3 (.slX .N (.int .u32)), .keep [1, 3]] st fun st => ev X st (⟨retK r06_Names.rs r06_Names.ps r06_Names.r, []⟩ : Ks r06_Names.R) (retK r06_Names.rs r06_Names.ps r06_Names.r)
noncomputable abbrev r06_Names.K1 (n : Nat) : St → Option r06_Names.R := r06_Names.H1 n (r06_Names.c1 n)
noncomputable def r06_Names.d (n : Nat) (X1 : XC) : XC :=
  (.seq (.reg (.op (.boxv 1 (.t 0)) none <| .op (.mv 2 (.c ⟨.nil 0, ()⟩)) none <| .nil)) <|
  (.seq (.reg (.op (.mv 3 (.c ⟨.nil 0, ()⟩)) none <| .nil)) <|
  (.seq (.aft (.seq (.reg (.op (.fa 4 1 1 1) none <| .op (.ld 5 4 1 false) none <| .op (.bin 6 .neq (.t 5) (.c ⟨.int .u32, ((0 : Int) : Int)⟩)) none <| .nil)) <|
  (.cond (.t 6)
  (.pre [.coe 3 (.slX .N (.int .u32))] (.reg (.op (.take 7 3) none <| .op (.fa 8 1 1 1) none <| .op (.ld 9 8 1 false) none <| .op (.bsl 10 (.int .u32) [(.t 9)]) none <| .op (.app 11 7 (.t 10) 4 1) none <| .op (.take 3 11) none <| .nil)))
  .skip)) [.coe 3 (.slX .N (.int .u32)), .keep [1, 3]]) X1)))
noncomputable abbrev r06_Names.c (n : Nat) : XC := r06_Names.d n (r06_Names.c1 n)
noncomputable def r06_Names.f (n : Nat) (a0 : DOp) : Option (List Int) :=
  bif (!decide (a0.2.1 = (0 : Int))) then (appK ([] : List Int).length ([a0.2.1] : List Int).length 4 (r06_Names.j1 n (a0.1, a0.2.1, a0.2.2.1, a0.2.2.2.1, a0.2.2.2.2.1, a0.2.2.2.2.2.1, a0.2.2.2.2.2.2.1, a0.2.2.2.2.2.2.2.1, a0.2.2.2.2.2.2.2.2) (([] : List Int) ++ ([a0.2.1] : List Int))))
  else (r06_Names.j1 n (a0.1, a0.2.1, a0.2.2.1, a0.2.2.2.1, a0.2.2.2.2.1, a0.2.2.2.2.2.1, a0.2.2.2.2.2.2.1, a0.2.2.2.2.2.2.2.1, a0.2.2.2.2.2.2.2.2) ([] : List Int))
theorem r06_Names.w (n : Nat) (a0 : DOp) (X1 : XC) : evFn (r06_Names.d n X1) r06_Names.rs r06_Names.ps r06_Names.r (a0, ()) =
  (bif (!decide (a0.2.1 = (0 : Int))) then (appK ([] : List Int).length ([a0.2.1] : List Int).length 4 (ev X1 [(1, some ⟨.box TOp, ((a0.1, a0.2.1, a0.2.2.1, a0.2.2.2.1, a0.2.2.2.2.1, a0.2.2.2.2.2.1, a0.2.2.2.2.2.2.1, a0.2.2.2.2.2.2.2.1, a0.2.2.2.2.2.2.2.2) : DOp)⟩), (3, some ⟨.slX .N (.int .u32), ((([] : List Int) ++ ([a0.2.1] : List Int)) : List Int)⟩)] (⟨retK r06_Names.rs r06_Names.ps r06_Names.r, []⟩ : Ks r06_Names.R) (retK r06_Names.rs r06_Names.ps r06_Names.r)))
  else (ev X1 [(1, some ⟨.box TOp, ((a0.1, a0.2.1, a0.2.2.1, a0.2.2.2.1, a0.2.2.2.2.1, a0.2.2.2.2.2.1, a0.2.2.2.2.2.2.1, a0.2.2.2.2.2.2.2.1, a0.2.2.2.2.2.2.2.2) : DOp)⟩), (3, some ⟨.slX .N (.int .u32), (([] : List Int) : List Int)⟩)] (⟨retK r06_Names.rs r06_Names.ps r06_Names.r, []⟩ : Ks r06_Names.R) (retK r06_Names.rs r06_Names.ps r06_Names.r)) : Option r06_Names.R) := by kernel_rfl
theorem r06_Names.ok (n : Nat) (a0 : DOp) : evFn (r06_Names.c n) r06_Names.rs r06_Names.ps r06_Names.r (a0, ()) = r06_Names.f n a0 := (r06_Names.w n a0 (r06_Names.c1 n)).trans (by simp -implicitDefEqProofs only [r06_Names.f, r06_Names.s1 n] <;> kernel_rfl)
noncomputable def r06_Names.sp (n : Nat) : FSpec := { f := 44, ps := r06_Names.ps, r := r06_Names.r, run := fun x => r06_Names.f n x.1 }
theorem r06_Names.calls (n : Nat) : (r06_Names.c n).calls = [] := by kernel_rfl
theorem r06_Names.fits (n : Nat) : fnB tab hd Try.f44 (r06_Names.c n) r06_Names.rs (r06_Names.sp n).ps (r06_Names.sp n).r = true := by kernel_rfl
theorem r06_Names.sound (n : Nat) : Sound Try.prog (r06_Names.sp n) := by
  refine fnB_sound tabOk eqFacts mixed (fn := Try.f44) (c := r06_Names.c n) (rs := r06_Names.rs) (by kernel_rfl) ?_ (r06_Names.fits n) ?_
  · rw [r06_Names.calls]
    intro s hs; cases hs
  · rintro ⟨a0, ⟨⟩⟩ y h
    exact (r06_Names.ok n a0).trans h
theorem r06_Names.meets (n : Nat) : Meets Try.prog (r06_Names.sp n) := (r06_Names.sound n).meets
/-! backwater/backwaterref08.Touches -/
abbrev r08_Touches.ps : List (Ty × Bool) := [(TRecord, false), (.int .u32, false)]
abbrev r08_Touches.r : Ty := .bool
abbrev r08_Touches.rs : List RV := [.t 4]
abbrev r08_Touches.R : Type := (rtOf r08_Touches.ps r08_Touches.r).den
noncomputable def r08_Touches.d1 (n : Nat) : XC :=
  (.seq (.reg (.op (.mv 4 (.c ⟨.bool, (false : Bool)⟩)) none <| .nil)) <|
  .ret)
noncomputable abbrev r08_Touches.c1 (n : Nat) : XC := r08_Touches.d1 n
noncomputable def r08_Touches.j1 (n : Nat)  : Option Bool :=
  some false
theorem r08_Touches.s1 (n : Nat)  : ev (r08_Touches.c1 n) [] (⟨retK r08_Touches.rs r08_Touches.ps r08_Touches.r, []⟩ : Ks r08_Touches.R) (retK r08_Touches.rs r08_Touches.ps r08_Touches.r) = r08_Touches.j1 n  := by kernel_rfl
noncomputable def r08_Touches.H1 (n : Nat) (X : XC) : St → Option r08_Touches.R := fun st => ghK [.keep []] st fun st => ev X st (⟨retK r08_Touches.rs r08_Touches.ps r08_Touches.r, []⟩ : Ks r08_Touches.R) (retK r08_Touches.rs r08_Touches.ps r08_Touches.r)
noncomputable abbrev r08_Touches.K1 (n : Nat) : St → Option r08_Touches.R := r08_Touches.H1 n (r08_Touches.c1 n)
noncomputable def r08_Touches.Kb2 (Kr2 : St → Option r08_Touches.R) : St → Option r08_Touches.R := fun st => ghK [.keep [1, 5, 6]] st Kr2
noncomputable def r08_Touches.d3 (n : Nat) : XC :=
  (.aft (.reg (.op (.mv 14 (.t 6)) none <| .op (.bin 15 .add (.t 14) (.c ⟨.int .i64, ((1 : Int) : Int)⟩)) none <| .op (.mv 6 (.t 15)) none <| .nil)) [.keep [1, 5, 6]])
noncomputable abbrev r08_Touches.c3 (n : Nat) : XC := r08_Touches.d3 n
theorem r08_Touches.qb2_0 (Kr2 : St → Option r08_Touches.R) (kr2 : Int → (List Int) → Int → Option Bool) (hK2 : ∀ (x1 : Int) (x5 : List Int) (x6 : Int), Kr2 [(1, some ⟨.int .u32, x1⟩), (5, some ⟨.slX .N (.int .u32), x5⟩), (6, some ⟨.int .i64, x6⟩)] = kr2 x1 x5 x6) (x1 : Int) (x5 : List Int) (x6 : Int) : r08_Touches.Kb2 Kr2 [(1, some ⟨.int .u32, x1⟩), (5, some ⟨.slX .N (.int .u32), x5⟩), (6, some ⟨.int .i64, x6⟩)] = kr2 x1 x5 x6 := (by kernel_rfl : _ = Kr2 [(1, some ⟨.int .u32, x1⟩), (5, some ⟨.slX .N (.int .u32), x5⟩), (6, some ⟨.int .i64, x6⟩)]).trans (hK2 x1 x5 x6)
noncomputable def r08_Touches.j3 (n : Nat) (kr2 : Int → (List Int) → Int → Option Bool) (x1 : Int) (x5 : List Int) (x6 : Int) : Option Bool :=
  kr2 x1 x5 (IntKind.i64.wrap (x6 + (1 : Int)))
theorem r08_Touches.w3 (n : Nat) (Kr2 : St → Option r08_Touches.R) (x1 : Int) (x5 : List Int) (x6 : Int) (K1 : St → Option r08_Touches.R) (Kb2 : St → Option r08_Touches.R) : ev (r08_Touches.d3 n) [(1, some ⟨.int .u32, x1⟩), (5, some ⟨.slX .N (.int .u32), x5⟩), (6, some ⟨.int .i64, x6⟩)] (⟨retK r08_Touches.rs r08_Touches.ps r08_Touches.r, [(0, K1)]⟩ : Ks r08_Touches.R) Kb2 =
  (Kb2 [(1, some ⟨.int .u32, x1⟩), (5, some ⟨.slX .N (.int .u32), x5⟩), (6, some ⟨.int .i64, (IntKind.i64.wrap (x6 + (1 : Int)))⟩)] : Option r08_Touches.R) := by kernel_rfl
theorem r08_Touches.s3 (n : Nat) (Kr2 : St → Option r08_Touches.R) (kr2 : Int → (List Int) → Int → Option Bool) (hK2 : ∀ (x1 : Int) (x5 : List Int) (x6 : Int), Kr2 [(1, some ⟨.int .u32, x1⟩), (5, some ⟨.slX .N (.int .u32), x5⟩), (6, some ⟨.int .i64, x6⟩)] = kr2 x1 x5 x6) (x1 : Int) (x5 : List Int) (x6 : Int) : ev (r08_Touches.c3 n) [(1, some ⟨.int .u32, x1⟩), (5, some ⟨.slX .N (.int .u32), x5⟩), (6, some ⟨.int .i64, x6⟩)] (⟨retK r08_Touches.rs r08_Touches.ps r08_Touches.r, [(0, (r08_Touches.K1 n))]⟩ : Ks r08_Touches.R) (r08_Touches.Kb2 Kr2) = r08_Touches.j3 n kr2 x1 x5 x6 := (r08_Touches.w3 n Kr2 x1 x5 x6 (r08_Touches.K1 n) (r08_Touches.Kb2 Kr2)).trans (by simp -implicitDefEqProofs only [r08_Touches.j3, r08_Touches.qb2_0 Kr2 kr2 hK2] <;> kernel_rfl)
noncomputable def r08_Touches.H3 (n : Nat) (K1 : St → Option r08_Touches.R) (Kb2 : St → Option r08_Touches.R) (X : XC) : St → Option r08_Touches.R := fun st => ghK [.keep [1, 5, 6]] st fun st => ev X st (⟨retK r08_Touches.rs r08_Touches.ps r08_Touches.r, [(0, K1)]⟩ : Ks r08_Touches.R) Kb2
noncomputable abbrev r08_Touches.K3 (n : Nat) (Kr2 : St → Option r08_Touches.R) : St → Option r08_Touches.R := r08_Touches.H3 n (r08_Touches.K1 n) (r08_Touches.Kb2 Kr2) (r08_Touches.c3 n)
noncomputable def r08_Touches.db2 (n : Nat) (X3 : XC) : XC :=
  (.aft (.seq (.seq (.reg (.op (.mv 10 (.t 6)) none <| .op (.bor 11 5) none <| .op (.len 12 (.t 11) false) none <| .op (.bin 13 .lss (.t 10) (.t 12)) none <| .nil)) <|
  (.cond (.t 13)
  .skip
  (.pre [.keep []] (.exit 0)))) <|
  (.seq (.aft (.block 1 (.seq (.reg (.op (.bor 16 5) none <| .op (.mv 17 (.t 6)) none <| .op (.idxA 18 (.t 16) (.t 17) 1 0) none <| .op (.ld 19 18 1 false) none <| .op (.mv 20 (.t 1)) none <| .op (.bin 21 .eql (.t 19) (.t 20)) none <| .nil)) <|
  (.cond (.t 21)
  (.seq (.pre [.keep []] (.reg (.op (.mv 4 (.c ⟨.bool, (true : Bool)⟩)) none <| .nil))) <|
  .ret)
  .skip))) [.keep [1, 5, 6]]) X3)) [.keep [1, 5, 6]])
noncomputable abbrev r08_Touches.cb2 (n : Nat) : XC := r08_Touches.db2 n (r08_Touches.c3 n)
theorem r08_Touches.q1_0_r (n : Nat) (X : XC)  : r08_Touches.H1 n X [] = (ev X [] (⟨retK r08_Touches.rs r08_Touches.ps r08_Touches.r, []⟩ : Ks r08_Touches.R) (retK r08_Touches.rs r08_Touches.ps r08_Touches.r) : Option r08_Touches.R) := by kernel_rfl
theorem r08_Touches.q1_0 (n : Nat)  : r08_Touches.K1 n [] = r08_Touches.j1 n  := (r08_Touches.q1_0_r n (r08_Touches.c1 n) ).trans (r08_Touches.s1 n )
noncomputable def r08_Touches.l2 (n : Nat) : Nat → Int → (List Int) → Int → Option Bool
  | 0, _, _, _ => none
  | k + 1, x1, x5, x6 =>
  bif (decide (x6 < (x5.length : Int))) then (idxK x5 x6 fun e1 => bif (decide (e1 = x1)) then (some true)
  else (r08_Touches.j3 n (r08_Touches.l2 n k) x1 x5 x6))
  else (r08_Touches.j1 n )
theorem r08_Touches.wb2 (n : Nat) (Kr2 : St → Option r08_Touches.R) (x1 : Int) (x5 : List Int) (x6 : Int) (K1 : St → Option r08_Touches.R) (X3 : XC) : ev (r08_Touches.db2 n X3) (keepSt [(1, some ⟨.int .u32, x1⟩), (5, some ⟨.slX .N (.int .u32), x5⟩), (6, some ⟨.int .i64, x6⟩)] [1, 5, 6]) (⟨retK r08_Touches.rs r08_Touches.ps r08_Touches.r, [(0, K1)]⟩ : Ks r08_Touches.R) Kr2 =
  (bif (decide (x6 < (x5.length : Int))) then (idxK x5 x6 fun e1 => bif (decide (e1 = x1)) then (some true)
  else (ev X3 [(1, some ⟨.int .u32, x1⟩), (5, some ⟨.slX .N (.int .u32), x5⟩), (6, some ⟨.int .i64, x6⟩)] (⟨retK r08_Touches.rs r08_Touches.ps r08_Touches.r, [(0, K1)]⟩ : Ks r08_Touches.R) (r08_Touches.Kb2 Kr2)))
  else (K1 []) : Option r08_Touches.R) := by kernel_rfl
theorem r08_Touches.l2_ok (n : Nat) (k : Nat) : ∀ (x1 : Int) (x5 : List Int) (x6 : Int), loopEv [1, 5, 6] (fun s K => ev (r08_Touches.cb2 n) s (⟨retK r08_Touches.rs r08_Touches.ps r08_Touches.r, [(0, (r08_Touches.K1 n))]⟩ : Ks r08_Touches.R) K) k [(1, some ⟨.int .u32, x1⟩), (5, some ⟨.slX .N (.int .u32), x5⟩), (6, some ⟨.int .i64, x6⟩)] = r08_Touches.l2 n k x1 x5 x6 := by
  induction k with
  | zero => intros; rfl
  | succ k ih =>
    intro x1 x5 x6
    exact (r08_Touches.wb2 n (fun st => loopEv [1, 5, 6] (fun s K => ev (r08_Touches.cb2 n) s (⟨retK r08_Touches.rs r08_Touches.ps r08_Touches.r, [(0, (r08_Touches.K1 n))]⟩ : Ks r08_Touches.R) K) k st) x1 x5 x6 (r08_Touches.K1 n) (r08_Touches.c3 n)).trans (by simp -implicitDefEqProofs only [r08_Touches.l2, r08_Touches.s3 n (fun st => loopEv [1, 5, 6] (fun s K => ev (r08_Touches.cb2 n) s (⟨retK r08_Touches.rs r08_Touches.ps r08_Touches.r, [(0, (r08_Touches.K1 n))]⟩ : Ks r08_Touches.R) K) k st) (r08_Touches.l2 n k) ih, r08_Touches.q1_0 n] <;> kernel_rfl)
noncomputable def r08_Touches.d (n : Nat) (X1 Y2 : XC) : XC :=
  (.seq (.reg (.op (.boxv 2 (.t 0)) none <| .op (.mv 4 (.c ⟨.bool, (false : Bool)⟩)) none <| .nil)) <|
  (.seq (.reg (.op (.fa 7 2 0 0) none <| .op (.ld 8 7 8 true) none <| .op (.call (some 9) (r06_Names.sp n) [.v (.t 8)]) none <| .op (.take 5 9) none <| .nil)) <|
  (.seq (.aft (.seq (.reg (.op (.mv 6 (.c ⟨.int .i64, ((0 : Int) : Int)⟩)) none <| .nil)) <|
  (.block 0 (.pre [.keep [1, 5, 6]] (.loop n [1, 5, 6] Y2)))) [.keep []]) X1)))
noncomputable abbrev r08_Touches.c (n : Nat) : XC := r08_Touches.d n (r08_Touches.c1 n) (r08_Touches.cb2 n)
noncomputable def r08_Touches.f (n : Nat) (a0 : DRecord) (a1 : Int) : Option Bool :=
  (r06_Names.f n (a0.1.1, a0.1.2.1, a0.1.2.2.1, a0.1.2.2.2.1, a0.1.2.2.2.2.1, a0.1.2.2.2.2.2.1, a0.1.2.2.2.2.2.2.1, a0.1.2.2.2.2.2.2.2.1, a0.1.2.2.2.2.2.2.2.2)).bind fun r1 => r08_Touches.l2 n n a1 r1 (0 : Int)
theorem r08_Touches.w (n : Nat) (a0 : DRecord) (a1 : Int) (X1 Y2 : XC) : evFn (r08_Touches.d n X1 Y2) r08_Touches.rs r08_Touches.ps r08_Touches.r (a0, a1, ()) =
  ((r06_Names.f n (a0.1.1, a0.1.2.1, a0.1.2.2.1, a0.1.2.2.2.1, a0.1.2.2.2.2.1, a0.1.2.2.2.2.2.1, a0.1.2.2.2.2.2.2.1, a0.1.2.2.2.2.2.2.2.1, a0.1.2.2.2.2.2.2.2.2)).bind fun r1 => loopEv [1, 5, 6] (fun s K => ev Y2 s (⟨retK r08_Touches.rs r08_Touches.ps r08_Touches.r, [(0, (r08_Touches.H1 n X1))]⟩ : Ks r08_Touches.R) K) n [(1, some ⟨.int .u32, a1⟩), (5, some ⟨.slX .N (.int .u32), r1⟩), (6, some ⟨.int .i64, (0 : Int)⟩)] : Option r08_Touches.R) := by kernel_rfl
theorem r08_Touches.ok (n : Nat) (a0 : DRecord) (a1 : Int) : evFn (r08_Touches.c n) r08_Touches.rs r08_Touches.ps r08_Touches.r (a0, a1, ()) = r08_Touches.f n a0 a1 := (r08_Touches.w n a0 a1 (r08_Touches.c1 n) (r08_Touches.cb2 n)).trans (by simp -implicitDefEqProofs only [r08_Touches.f, r08_Touches.l2_ok n] <;> kernel_rfl)
noncomputable def r08_Touches.sp (n : Nat) : FSpec := { f := 27, ps := r08_Touches.ps, r := r08_Touches.r, run := fun x => r08_Touches.f n x.1 x.2.1 }
theorem r08_Touches.calls (n : Nat) : (r08_Touches.c n).calls = [r06_Names.sp n] := by kernel_rfl
theorem r08_Touches.fits (n : Nat) : fnB tab hd Try.f27 (r08_Touches.c n) r08_Touches.rs (r08_Touches.sp n).ps (r08_Touches.sp n).r = true := by kernel_rfl
theorem r08_Touches.sound (n : Nat) : Sound Try.prog (r08_Touches.sp n) := by
  refine fnB_sound tabOk eqFacts mixed (fn := Try.f27) (c := r08_Touches.c n) (rs := r08_Touches.rs) (by kernel_rfl) ?_ (r08_Touches.fits n) ?_
  · rw [r08_Touches.calls]
    intro s hs
    simp only [List.mem_cons, List.not_mem_nil, or_false] at hs
    rcases hs with rfl
    · exact r06_Names.meets n
  · rintro ⟨a0, a1, ⟨⟩⟩ y h
    exact (r08_Touches.ok n a0 a1).trans h
theorem r08_Touches.meets (n : Nat) : Meets Try.prog (r08_Touches.sp n) := (r08_Touches.sound n).meets
/-! backwater/backwaterref08.entry -/
abbrev r08_entry.ps : List (Ty × Bool) := [(TRecord, false), (.int .u32, false), (.str, false)]
abbrev r08_entry.r : Ty := .bool
abbrev r08_entry.rs : List RV := [.t 6]
abbrev r08_entry.R : Type := (rtOf r08_entry.ps r08_entry.r).den
noncomputable def r08_entry.d (n : Nat) : XC :=
  (.seq (.reg (.op (.boxv 3 (.t 0)) none <| .op (.mv 6 (.c ⟨.bool, (false : Bool)⟩)) none <| .nil)) <|
  (.seq (.reg (.op (.fa 7 3 0 0) none <| .op (.fa 8 7 2 2) none <| .op (.ld 9 8 1 false) none <| .op (.mv 10 (.t 1)) none <| .op (.bin 11 .eql (.t 9) (.t 10)) none <| .op (.mv 12 (.t 11)) none <| .grp 12 true (.op (.fa 13 3 0 0) (some ([3, 12, 13], [13])) <| .op (.fa 14 13 3 3) (some ([3, 12, 13, 14], [14])) <| .op (.ld 15 14 1 false) (some ([3, 12, 14, 15], [15])) <| .op (.mv 16 (.t 2)) (some ([2, 12, 16], [16])) <| .op (.bin 17 .eql (.t 15) (.t 16)) (some ([12, 15, 16, 17], [17])) <| .nil) 17 18 [13, 14, 15, 16, 17] <| .op (.mv 19 (.t 18)) none <| .grp 19 false (.op (.fa 20 3 0 0) (some ([3, 19, 20], [20])) <| .op (.fa 21 20 4 4) (some ([3, 19, 20, 21], [21])) <| .op (.ld 22 21 1 false) (some ([3, 19, 21, 22], [22])) <| .op (.mv 23 (.t 1)) (some ([1, 19, 23], [23])) <| .op (.bin 24 .eql (.t 22) (.t 23)) (some ([19, 22, 23, 24], [24])) <| .op (.mv 25 (.t 24)) (some ([19, 24, 25], [25])) <| .grp 25 true (.op (.fa 26 3 0 0) (some ([3, 25, 26], [26])) <| .op (.fa 27 26 5 5) (some ([3, 25, 26, 27], [27])) <| .op (.ld 28 27 1 false) (some ([3, 25, 27, 28], [28])) <| .op (.mv 29 (.t 2)) (some ([2, 25, 29], [29])) <| .op (.bin 30 .eql (.t 28) (.t 29)) (some ([25, 28, 29, 30], [30])) <| .nil) 30 31 [26, 27, 28, 29, 30] <| .nil) 31 32 [20, 21, 22, 23, 24, 25, 26, 27, 28, 29, 30, 31] <| .op (.mv 6 (.t 32)) none <| .nil)) <|
  .ret))
noncomputable abbrev r08_entry.c (n : Nat) : XC := r08_entry.d n
noncomputable def r08_entry.f (n : Nat) (a0 : DRecord) (a1 : Int) (a2 : List Int) : Option Bool :=
  (bif (decide (a0.1.2.2.1 = a1)) then (some (decide (a0.1.2.2.2.1 = a2))) else some false).bind fun g1 =>
  (bif g1 then some true else ((bif (decide (a0.1.2.2.2.2.1 = a1)) then (some (decide (a0.1.2.2.2.2.2.1 = a2))) else some false).bind fun g3 =>
  some g3)).bind fun g2 =>
  some g2
theorem r08_entry.ok (n : Nat) (a0 : DRecord) (a1 : Int) (a2 : List Int) : evFn (r08_entry.c n) r08_entry.rs r08_entry.ps r08_entry.r (a0, a1, a2, ()) = r08_entry.f n a0 a1 a2 := by kernel_rfl
noncomputable def r08_entry.sp (n : Nat) : FSpec := { f := 58, ps := r08_entry.ps, r := r08_entry.r, run := fun x => r08_entry.f n x.1 x.2.1 x.2.2.1 }
theorem r08_entry.calls (n : Nat) : (r08_entry.c n).calls = [] := by kernel_rfl
theorem r08_entry.fits (n : Nat) : fnB tab hd Try.f58 (r08_entry.c n) r08_entry.rs (r08_entry.sp n).ps (r08_entry.sp n).r = true := by kernel_rfl
theorem r08_entry.sound (n : Nat) : Sound Try.prog (r08_entry.sp n) := by
  refine fnB_sound tabOk eqFacts mixed (fn := Try.f58) (c := r08_entry.c n) (rs := r08_entry.rs) (by kernel_rfl) ?_ (r08_entry.fits n) ?_
  · rw [r08_entry.calls]
    intro s hs; cases hs
  · rintro ⟨a0, a1, a2, ⟨⟩⟩ y h
    exact (r08_entry.ok n a0 a1 a2).trans h
theorem r08_entry.meets (n : Nat) : Meets Try.prog (r08_entry.sp n) := (r08_entry.sound n).meets
/-! backwater/backwaterref08.content -/
abbrev r08_content.ps : List (Ty × Bool) := [(TRecord, false), (.int .u32, false)]
abbrev r08_content.r : Ty := .bool
abbrev r08_content.rs : List RV := [.t 4]
abbrev r08_content.R : Type := (rtOf r08_content.ps r08_content.r).den
noncomputable def r08_content.d (n : Nat) : XC :=
  (.seq (.reg (.op (.boxv 2 (.t 0)) none <| .op (.mv 4 (.c ⟨.bool, (false : Bool)⟩)) none <| .nil)) <|
  (.seq (.reg (.op (.fa 5 2 0 0) none <| .op (.fa 6 5 0 0) none <| .op (.ld 7 6 1 false) none <| .op (.bin 8 .eql (.t 7) (.c ⟨.int .u8, ((8 : Int) : Int)⟩)) none <| .op (.mv 9 (.t 8)) none <| .grp 9 false (.op (.fa 10 2 0 0) (some ([2, 9, 10], [10])) <| .op (.fa 11 10 0 0) (some ([2, 9, 10, 11], [11])) <| .op (.ld 12 11 1 false) (some ([2, 9, 11, 12], [12])) <| .op (.bin 13 .eql (.t 12) (.c ⟨.int .u8, ((9 : Int) : Int)⟩)) (some ([9, 12, 13], [13])) <| .nil) 13 14 [10, 11, 12, 13] <| .op (.mv 15 (.t 14)) none <| .grp 15 true (.op (.fa 16 2 0 0) (some ([2, 15, 16], [16])) <| .op (.fa 17 16 1 1) (some ([2, 15, 16, 17], [17])) <| .op (.ld 18 17 1 false) (some ([2, 15, 17, 18], [18])) <| .op (.mv 19 (.t 1)) (some ([1, 15, 19], [19])) <| .op (.bin 20 .eql (.t 18) (.t 19)) (some ([15, 18, 19, 20], [20])) <| .nil) 20 21 [16, 17, 18, 19, 20] <| .op (.mv 4 (.t 21)) none <| .nil)) <|
  .ret))
noncomputable abbrev r08_content.c (n : Nat) : XC := r08_content.d n
noncomputable def r08_content.f (n : Nat) (a0 : DRecord) (a1 : Int) : Option Bool :=
  (bif (decide (a0.1.1 = (8 : Int))) then some true else (some (decide (a0.1.1 = (9 : Int))))).bind fun g1 =>
  (bif g1 then (some (decide (a0.1.2.1 = a1))) else some false).bind fun g2 =>
  some g2
theorem r08_content.ok (n : Nat) (a0 : DRecord) (a1 : Int) : evFn (r08_content.c n) r08_content.rs r08_content.ps r08_content.r (a0, a1, ()) = r08_content.f n a0 a1 := by kernel_rfl
noncomputable def r08_content.sp (n : Nat) : FSpec := { f := 59, ps := r08_content.ps, r := r08_content.r, run := fun x => r08_content.f n x.1 x.2.1 }
theorem r08_content.calls (n : Nat) : (r08_content.c n).calls = [] := by kernel_rfl
theorem r08_content.fits (n : Nat) : fnB tab hd Try.f59 (r08_content.c n) r08_content.rs (r08_content.sp n).ps (r08_content.sp n).r = true := by kernel_rfl
theorem r08_content.sound (n : Nat) : Sound Try.prog (r08_content.sp n) := by
  refine fnB_sound tabOk eqFacts mixed (fn := Try.f59) (c := r08_content.c n) (rs := r08_content.rs) (by kernel_rfl) ?_ (r08_content.fits n) ?_
  · rw [r08_content.calls]
    intro s hs; cases hs
  · rintro ⟨a0, a1, ⟨⟩⟩ y h
    exact (r08_content.ok n a0 a1).trans h
theorem r08_content.meets (n : Nat) : Meets Try.prog (r08_content.sp n) := (r08_content.sound n).meets
/-! backwater/backwaterref08.pair -/
abbrev r08_pair.ps : List (Ty × Bool) := [(.slB .U false TRecord, false), (.int .i64, false), (.int .i64, false)]
abbrev r08_pair.r : Ty := .bool
abbrev r08_pair.rs : List RV := [.t 6]
abbrev r08_pair.R : Type := (rtOf r08_pair.ps r08_pair.r).den
noncomputable def r08_pair.d1 (n : Nat) : XC :=
  (.seq (.reg (.op (.mv 6 (.c ⟨.bool, (true : Bool)⟩)) none <| .nil)) <|
  .ret)
noncomputable abbrev r08_pair.c1 (n : Nat) : XC := r08_pair.d1 n
noncomputable def r08_pair.j1 (n : Nat)  : Option Bool :=
  some true
theorem r08_pair.s1 (n : Nat)  : ev (r08_pair.c1 n) [] (⟨retK r08_pair.rs r08_pair.ps r08_pair.r, []⟩ : Ks r08_pair.R) (retK r08_pair.rs r08_pair.ps r08_pair.r) = r08_pair.j1 n  := by kernel_rfl
noncomputable def r08_pair.H1 (n : Nat) (X : XC) : St → Option r08_pair.R := fun st => ghK [.keep []] st fun st => ev X st (⟨retK r08_pair.rs r08_pair.ps r08_pair.r, []⟩ : Ks r08_pair.R) (retK r08_pair.rs r08_pair.ps r08_pair.r)
noncomputable abbrev r08_pair.K1 (n : Nat) : St → Option r08_pair.R := r08_pair.H1 n (r08_pair.c1 n)
noncomputable def r08_pair.Kb2 (Kr2 : St → Option r08_pair.R) : St → Option r08_pair.R := fun st => ghK [.keep [0, 2, 7, 10]] st Kr2
noncomputable def r08_pair.d3 (n : Nat) : XC :=
  (.aft (.reg (.op (.mv 65 (.t 10)) none <| .op (.bin 66 .add (.t 65) (.c ⟨.int .i64, ((1 : Int) : Int)⟩)) none <| .op (.mv 10 (.t 66)) none <| .nil)) [.keep [0, 2, 7, 10]])
noncomputable abbrev r08_pair.c3 (n : Nat) : XC := r08_pair.d3 n
theorem r08_pair.qb2_0 (Kr2 : St → Option r08_pair.R) (kr2 : (List DRecord) → Int → DOp → Int → Option Bool) (hK2 : ∀ (x0 : List DRecord) (x2 : Int) (x7 : DOp) (x10 : Int), Kr2 [(0, some ⟨.slB .U false TRecord, x0⟩), (2, some ⟨.int .i64, x2⟩), (7, some ⟨.box TOp, x7⟩), (10, some ⟨.int .i64, x10⟩)] = kr2 x0 x2 x7 x10) (x0 : List DRecord) (x2 : Int) (x7 : DOp) (x10 : Int) : r08_pair.Kb2 Kr2 [(0, some ⟨.slB .U false TRecord, x0⟩), (2, some ⟨.int .i64, x2⟩), (7, some ⟨.box TOp, x7⟩), (10, some ⟨.int .i64, x10⟩)] = kr2 x0 x2 (x7.1, x7.2.1, x7.2.2.1, x7.2.2.2.1, x7.2.2.2.2.1, x7.2.2.2.2.2.1, x7.2.2.2.2.2.2.1, x7.2.2.2.2.2.2.2.1, x7.2.2.2.2.2.2.2.2) x10 := (by kernel_rfl : _ = Kr2 [(0, some ⟨.slB .U false TRecord, x0⟩), (2, some ⟨.int .i64, x2⟩), (7, some ⟨.box TOp, ((x7.1, x7.2.1, x7.2.2.1, x7.2.2.2.1, x7.2.2.2.2.1, x7.2.2.2.2.2.1, x7.2.2.2.2.2.2.1, x7.2.2.2.2.2.2.2.1, x7.2.2.2.2.2.2.2.2) : DOp)⟩), (10, some ⟨.int .i64, x10⟩)]).trans (hK2 x0 x2 (x7.1, x7.2.1, x7.2.2.1, x7.2.2.2.1, x7.2.2.2.2.1, x7.2.2.2.2.2.1, x7.2.2.2.2.2.2.1, x7.2.2.2.2.2.2.2.1, x7.2.2.2.2.2.2.2.2) x10)
noncomputable def r08_pair.j3 (n : Nat) (kr2 : (List DRecord) → Int → DOp → Int → Option Bool) (x0 : List DRecord) (x2 : Int) (x7 : DOp) (x10 : Int) : Option Bool :=
  kr2 x0 x2 (x7.1, x7.2.1, x7.2.2.1, x7.2.2.2.1, x7.2.2.2.2.1, x7.2.2.2.2.2.1, x7.2.2.2.2.2.2.1, x7.2.2.2.2.2.2.2.1, x7.2.2.2.2.2.2.2.2) (IntKind.i64.wrap (x10 + (1 : Int)))
theorem r08_pair.w3 (n : Nat) (Kr2 : St → Option r08_pair.R) (x0 : List DRecord) (x2 : Int) (x7 : DOp) (x10 : Int) (K1 : St → Option r08_pair.R) (Kb2 : St → Option r08_pair.R) : ev (r08_pair.d3 n) [(0, some ⟨.slB .U false TRecord, x0⟩), (2, some ⟨.int .i64, x2⟩), (7, some ⟨.box TOp, x7⟩), (10, some ⟨.int .i64, x10⟩)] (⟨retK r08_pair.rs r08_pair.ps r08_pair.r, [(0, K1)]⟩ : Ks r08_pair.R) Kb2 =
  (Kb2 [(0, some ⟨.slB .U false TRecord, x0⟩), (2, some ⟨.int .i64, x2⟩), (7, some ⟨.box TOp, x7⟩), (10, some ⟨.int .i64, (IntKind.i64.wrap (x10 + (1 : Int)))⟩)] : Option r08_pair.R) := by kernel_rfl
theorem r08_pair.s3 (n : Nat) (Kr2 : St → Option r08_pair.R) (kr2 : (List DRecord) → Int → DOp → Int → Option Bool) (hK2 : ∀ (x0 : List DRecord) (x2 : Int) (x7 : DOp) (x10 : Int), Kr2 [(0, some ⟨.slB .U false TRecord, x0⟩), (2, some ⟨.int .i64, x2⟩), (7, some ⟨.box TOp, x7⟩), (10, some ⟨.int .i64, x10⟩)] = kr2 x0 x2 x7 x10) (x0 : List DRecord) (x2 : Int) (x7 : DOp) (x10 : Int) : ev (r08_pair.c3 n) [(0, some ⟨.slB .U false TRecord, x0⟩), (2, some ⟨.int .i64, x2⟩), (7, some ⟨.box TOp, x7⟩), (10, some ⟨.int .i64, x10⟩)] (⟨retK r08_pair.rs r08_pair.ps r08_pair.r, [(0, (r08_pair.K1 n))]⟩ : Ks r08_pair.R) (r08_pair.Kb2 Kr2) = r08_pair.j3 n kr2 x0 x2 x7 x10 := (r08_pair.w3 n Kr2 x0 x2 x7 x10 (r08_pair.K1 n) (r08_pair.Kb2 Kr2)).trans (by simp -implicitDefEqProofs only [r08_pair.j3, r08_pair.qb2_0 Kr2 kr2 hK2] <;> kernel_rfl)
noncomputable def r08_pair.H3 (n : Nat) (K1 : St → Option r08_pair.R) (Kb2 : St → Option r08_pair.R) (X : XC) : St → Option r08_pair.R := fun st => ghK [.keep [0, 2, 7, 10]] st fun st => ev X st (⟨retK r08_pair.rs r08_pair.ps r08_pair.r, [(0, K1)]⟩ : Ks r08_pair.R) Kb2
noncomputable abbrev r08_pair.K3 (n : Nat) (Kr2 : St → Option r08_pair.R) : St → Option r08_pair.R := r08_pair.H3 n (r08_pair.K1 n) (r08_pair.Kb2 Kr2) (r08_pair.c3 n)
noncomputable def r08_pair.db2 (n : Nat) (X3 : XC) : XC :=
  (.aft (.seq (.seq (.reg (.op (.mv 62 (.t 10)) none <| .op (.mv 63 (.t 2)) none <| .op (.bin 64 .lss (.t 62) (.t 63)) none <| .nil)) <|
  (.cond (.t 64)
  .skip
  (.pre [.keep []] (.exit 0)))) <|
  (.seq (.aft (.block 1 (.seq (.regD (.op (.mv 67 (.t 0)) (some ([0, 67], [67])) <| .op (.mv 68 (.t 10)) (some ([10, 68], [68])) <| .op (.idxA 69 (.t 67) (.t 68) 9 0) (some ([67, 68, 69], [69])) <| .op (.ld 70 69 9 true) (some ([69, 70], [70])) <| .op (.fa 71 7 1 1) (some ([7, 71], [71])) <| .op (.ld 72 71 1 false) (some ([7, 71, 72], [72])) <| .op (.call (some 73) (r08_Touches.sp n) [.v (.t 70), .v (.t 72)]) (some ([70, 72, 73], [73])) <| .op (.mv 74 (.t 73)) (some ([73, 74], [74])) <| .grp 74 false (.op (.mv 75 (.t 0)) (some ([0, 74, 75], [75])) <| .op (.mv 76 (.t 10)) (some ([10, 74, 76], [76])) <| .op (.idxA 77 (.t 75) (.t 76) 9 0) (some ([74, 75, 76, 77], [77])) <| .op (.ld 78 77 9 true) (some ([74, 77, 78], [78])) <| .op (.fa 79 7 2 2) (some ([7, 74, 79], [79])) <| .op (.ld 80 79 1 false) (some ([7, 74, 79, 80], [80])) <| .op (.fa 81 7 3 3) (some ([7, 74, 81], [81])) <| .op (.ld 82 81 1 false) (some ([7, 74, 81, 82], [82])) <| .op (.call (some 83) (r08_entry.sp n) [.v (.t 78), .v (.t 80), .v (.t 82)]) (some ([74, 78, 80, 82, 83], [83])) <| .nil) 83 84 [75, 76, 77, 78, 79, 80, 81, 82, 83] <| .op (.mv 85 (.t 84)) (some ([84, 85], [85])) <| .grp 85 true (.op (.mv 86 (.t 0)) (some ([0, 85, 86], [86])) <| .op (.mv 87 (.t 10)) (some ([10, 85, 87], [87])) <| .op (.idxA 88 (.t 86) (.t 87) 9 0) (some ([85, 86, 87, 88], [88])) <| .op (.ld 89 88 9 true) (some ([85, 88, 89], [89])) <| .op (.fa 90 7 1 1) (some ([7, 85, 90], [90])) <| .op (.ld 91 90 1 false) (some ([7, 85, 90, 91], [91])) <| .op (.call (some 92) (r08_content.sp n) [.v (.t 89), .v (.t 91)]) (some ([85, 89, 91, 92], [92])) <| .op (.un 93 .not (.t 92)) (some ([85, 92, 93], [93])) <| .nil) 93 94 [86, 87, 88, 89, 90, 91, 92, 93] <| .nil)) <|
  (.cond (.t 94)
  (.seq (.pre [.keep []] (.reg (.op (.mv 6 (.c ⟨.bool, (false : Bool)⟩)) none <| .nil))) <|
  .ret)
  .skip))) [.keep [0, 2, 7, 10]]) X3)) [.keep [0, 2, 7, 10]])
noncomputable abbrev r08_pair.cb2 (n : Nat) : XC := r08_pair.db2 n (r08_pair.c3 n)
theorem r08_pair.q1_0_r (n : Nat) (X : XC)  : r08_pair.H1 n X [] = (ev X [] (⟨retK r08_pair.rs r08_pair.ps r08_pair.r, []⟩ : Ks r08_pair.R) (retK r08_pair.rs r08_pair.ps r08_pair.r) : Option r08_pair.R) := by kernel_rfl
theorem r08_pair.q1_0 (n : Nat)  : r08_pair.K1 n [] = r08_pair.j1 n  := (r08_pair.q1_0_r n (r08_pair.c1 n) ).trans (r08_pair.s1 n )
noncomputable def r08_pair.l2 (n : Nat) : Nat → (List DRecord) → Int → DOp → Int → Option Bool
  | 0, _, _, _, _ => none
  | k + 1, x0, x2, x7, x10 =>
  bif (decide (x10 < x2)) then (idxK x0 x10 fun e1 => (r08_Touches.f n ((e1.1.1, e1.1.2.1, e1.1.2.2.1, e1.1.2.2.2.1, e1.1.2.2.2.2.1, e1.1.2.2.2.2.2.1, e1.1.2.2.2.2.2.2.1, e1.1.2.2.2.2.2.2.2.1, e1.1.2.2.2.2.2.2.2.2), e1.2.1, e1.2.2) x7.2.1).bind fun r2 => (bif r2 then some true else (idxK x0 x10 fun e4 => (r08_entry.f n ((e4.1.1, e4.1.2.1, e4.1.2.2.1, e4.1.2.2.2.1, e4.1.2.2.2.2.1, e4.1.2.2.2.2.2.1, e4.1.2.2.2.2.2.2.1, e4.1.2.2.2.2.2.2.2.1, e4.1.2.2.2.2.2.2.2.2), e4.2.1, e4.2.2) x7.2.2.1 x7.2.2.2.1).bind fun r5 => some r5)).bind fun g3 =>
  (bif g3 then (idxK x0 x10 fun e7 => (r08_content.f n ((e7.1.1, e7.1.2.1, e7.1.2.2.1, e7.1.2.2.2.1, e7.1.2.2.2.2.1, e7.1.2.2.2.2.2.1, e7.1.2.2.2.2.2.2.1, e7.1.2.2.2.2.2.2.2.1, e7.1.2.2.2.2.2.2.2.2), e7.2.1, e7.2.2) x7.2.1).bind fun r8 => some (!r8)) else some false).bind fun g6 =>
  bif g6 then (some false)
  else (r08_pair.j3 n (r08_pair.l2 n k) x0 x2 (x7.1, x7.2.1, x7.2.2.1, x7.2.2.2.1, x7.2.2.2.2.1, x7.2.2.2.2.2.1, x7.2.2.2.2.2.2.1, x7.2.2.2.2.2.2.2.1, x7.2.2.2.2.2.2.2.2) x10))
  else (r08_pair.j1 n )
theorem r08_pair.wb2 (n : Nat) (Kr2 : St → Option r08_pair.R) (x0 : List DRecord) (x2 : Int) (x7 : DOp) (x10 : Int) (K1 : St → Option r08_pair.R) (X3 : XC) : ev (r08_pair.db2 n X3) (keepSt [(0, some ⟨.slB .U false TRecord, x0⟩), (2, some ⟨.int .i64, x2⟩), (7, some ⟨.box TOp, x7⟩), (10, some ⟨.int .i64, x10⟩)] [0, 2, 7, 10]) (⟨retK r08_pair.rs r08_pair.ps r08_pair.r, [(0, K1)]⟩ : Ks r08_pair.R) Kr2 =
  (bif (decide (x10 < x2)) then (idxK x0 x10 fun e1 => (r08_Touches.f n ((e1.1.1, e1.1.2.1, e1.1.2.2.1, e1.1.2.2.2.1, e1.1.2.2.2.2.1, e1.1.2.2.2.2.2.1, e1.1.2.2.2.2.2.2.1, e1.1.2.2.2.2.2.2.2.1, e1.1.2.2.2.2.2.2.2.2), e1.2.1, e1.2.2) x7.2.1).bind fun r2 => (bif r2 then some true else (idxK x0 x10 fun e4 => (r08_entry.f n ((e4.1.1, e4.1.2.1, e4.1.2.2.1, e4.1.2.2.2.1, e4.1.2.2.2.2.1, e4.1.2.2.2.2.2.1, e4.1.2.2.2.2.2.2.1, e4.1.2.2.2.2.2.2.2.1, e4.1.2.2.2.2.2.2.2.2), e4.2.1, e4.2.2) x7.2.2.1 x7.2.2.2.1).bind fun r5 => some r5)).bind fun g3 =>
  (bif g3 then (idxK x0 x10 fun e7 => (r08_content.f n ((e7.1.1, e7.1.2.1, e7.1.2.2.1, e7.1.2.2.2.1, e7.1.2.2.2.2.1, e7.1.2.2.2.2.2.1, e7.1.2.2.2.2.2.2.1, e7.1.2.2.2.2.2.2.2.1, e7.1.2.2.2.2.2.2.2.2), e7.2.1, e7.2.2) x7.2.1).bind fun r8 => some (!r8)) else some false).bind fun g6 =>
  bif g6 then (some false)
  else (ev X3 [(0, some ⟨.slB .U false TRecord, x0⟩), (2, some ⟨.int .i64, x2⟩), (7, some ⟨.box TOp, ((x7.1, x7.2.1, x7.2.2.1, x7.2.2.2.1, x7.2.2.2.2.1, x7.2.2.2.2.2.1, x7.2.2.2.2.2.2.1, x7.2.2.2.2.2.2.2.1, x7.2.2.2.2.2.2.2.2) : DOp)⟩), (10, some ⟨.int .i64, x10⟩)] (⟨retK r08_pair.rs r08_pair.ps r08_pair.r, [(0, K1)]⟩ : Ks r08_pair.R) (r08_pair.Kb2 Kr2)))
  else (K1 []) : Option r08_pair.R) := by kernel_rfl
theorem r08_pair.l2_ok (n : Nat) (k : Nat) : ∀ (x0 : List DRecord) (x2 : Int) (x7 : DOp) (x10 : Int), loopEv [0, 2, 7, 10] (fun s K => ev (r08_pair.cb2 n) s (⟨retK r08_pair.rs r08_pair.ps r08_pair.r, [(0, (r08_pair.K1 n))]⟩ : Ks r08_pair.R) K) k [(0, some ⟨.slB .U false TRecord, x0⟩), (2, some ⟨.int .i64, x2⟩), (7, some ⟨.box TOp, x7⟩), (10, some ⟨.int .i64, x10⟩)] = r08_pair.l2 n k x0 x2 x7 x10 := by
  induction k with
  | zero => intros; rfl
  | succ k ih =>
    intro x0 x2 x7 x10
    exact (r08_pair.wb2 n (fun st => loopEv [0, 2, 7, 10] (fun s K => ev (r08_pair.cb2 n) s (⟨retK r08_pair.rs r08_pair.ps r08_pair.r, [(0, (r08_pair.K1 n))]⟩ : Ks r08_pair.R) K) k st) x0 x2 x7 x10 (r08_pair.K1 n) (r08_pair.c3 n)).trans (by simp -implicitDefEqProofs only [r08_pair.l2, r08_pair.s3 n (fun st => loopEv [0, 2, 7, 10] (fun s K => ev (r08_pair.cb2 n) s (⟨retK r08_pair.rs r08_pair.ps r08_pair.r, [(0, (r08_pair.K1 n))]⟩ : Ks r08_pair.R) K) k st) (r08_pair.l2 n k) ih, r08_pair.q1_0 n] <;> kernel_rfl)
noncomputable def r08_pair.d (n : Nat) (X1 Y2 : XC) : XC :=
  (.seq (.reg (.op (.mv 6 (.c ⟨.bool, (false : Bool)⟩)) none <| .nil)) <|
  (.seq (.regD (.op (.mv 11 (.t 0)) (some ([0, 11], [11])) <| .op (.mv 12 (.t 1)) (some ([1, 12], [12])) <| .op (.idxA 13 (.t 11) (.t 12) 9 0) (some ([11, 12, 13], [13])) <| .op (.fa 14 13 0 0) (some ([13, 14], [14])) <| .op (.ld 15 14 8 true) (some ([14, 15], [15])) <| .op (.mv 16 (.t 0)) (some ([0, 16], [16])) <| .op (.mv 17 (.t 2)) (some ([2, 17], [17])) <| .op (.idxA 18 (.t 16) (.t 17) 9 0) (some ([16, 17, 18], [18])) <| .op (.fa 19 18 0 0) (some ([18, 19], [19])) <| .op (.ld 20 19 8 true) (some ([19, 20], [20])) <| .op (.alloc 7 ⟨TOp, (((0 : Int), (0 : Int), (0 : Int), ([] : List Int), (0 : Int), ([] : List Int), (0 : Int), ([] : List Int), ()) : DOp)⟩) (some ([7], [7])) <| .op (.alloc 8 ⟨TOp, (((0 : Int), (0 : Int), (0 : Int), ([] : List Int), (0 : Int), ([] : List Int), (0 : Int), ([] : List Int), ()) : DOp)⟩) (some ([8], [8])) <| .op (.st 7 (.t 15) 8) (some ([7, 15], [7])) <| .op (.st 8 (.t 20) 8) (some ([8, 20], [8])) <| .nil)) <|
  (.seq (.pre [.keep [0, 1, 2, 7, 8]] (.reg (.op (.fa 21 8 0 0) none <| .op (.ld 22 21 1 false) none <| .op (.bin 23 .eql (.t 22) (.c ⟨.int .u8, ((5 : Int) : Int)⟩)) none <| .op (.mv 24 (.t 23)) none <| .grp 24 true (.op (.fa 25 7 0 0) (some ([7, 24, 25], [25])) <| .op (.ld 26 25 1 false) (some ([7, 24, 25, 26], [26])) <| .op (.bin 27 .eql (.t 26) (.c ⟨.int .u8, ((1 : Int) : Int)⟩)) (some ([24, 26, 27], [27])) <| .op (.mv 28 (.t 27)) (some ([24, 27, 28], [28])) <| .grp 28 false (.op (.fa 29 7 0 0) (some ([7, 28, 29], [29])) <| .op (.ld 30 29 1 false) (some ([7, 28, 29, 30], [30])) <| .op (.bin 31 .eql (.t 30) (.c ⟨.int .u8, ((3 : Int) : Int)⟩)) (some ([28, 30, 31], [31])) <| .nil) 31 32 [29, 30, 31] <| .nil) 32 33 [25, 26, 27, 28, 29, 30, 31, 32] <| .op (.mv 34 (.t 33)) none <| .grp 34 false (.op (.fa 35 8 0 0) (some ([8, 34, 35], [35])) <| .op (.ld 36 35 1 false) (some ([8, 34, 35, 36], [36])) <| .op (.bin 37 .eql (.t 36) (.c ⟨.int .u8, ((6 : Int) : Int)⟩)) (some ([34, 36, 37], [37])) <| .op (.mv 38 (.t 37)) (some ([34, 37, 38], [38])) <| .grp 38 true (.op (.fa 39 7 0 0) (some ([7, 38, 39], [39])) <| .op (.ld 40 39 1 false) (some ([7, 38, 39, 40], [40])) <| .op (.bin 41 .eql (.t 40) (.c ⟨.int .u8, ((2 : Int) : Int)⟩)) (some ([38, 40, 41], [41])) <| .nil) 41 42 [39, 40, 41] <| .nil) 42 43 [35, 36, 37, 38, 39, 40, 41, 42] <| .op (.mv 9 (.t 43)) none <| .nil))) <|
  (.seq (.seq (.reg (.op (.mv 44 (.t 9)) none <| .op (.un 45 .not (.t 44)) none <| .op (.mv 46 (.t 45)) none <| .grp 46 false (.op (.fa 47 7 2 2) (some ([7, 46, 47], [47])) <| .op (.ld 48 47 1 false) (some ([7, 46, 47, 48], [48])) <| .op (.fa 49 8 2 2) (some ([8, 46, 49], [49])) <| .op (.ld 50 49 1 false) (some ([8, 46, 49, 50], [50])) <| .op (.bin 51 .neq (.t 48) (.t 50)) (some ([46, 48, 50, 51], [51])) <| .nil) 51 52 [47, 48, 49, 50, 51] <| .op (.mv 53 (.t 52)) none <| .grp 53 false (.op (.fa 54 7 3 3) (some ([7, 53, 54], [54])) <| .op (.ld 55 54 1 false) (some ([7, 53, 54, 55], [55])) <| .op (.fa 56 8 3 3) (some ([8, 53, 56], [56])) <| .op (.ld 57 56 1 false) (some ([8, 53, 56, 57], [57])) <| .op (.bin 58 .neq (.t 55) (.t 57)) (some ([53, 55, 57, 58], [58])) <| .nil) 58 59 [54, 55, 56, 57, 58] <| .nil)) <|
  (.cond (.t 59)
  (.seq (.pre [.keep []] (.reg (.op (.mv 6 (.c ⟨.bool, (false : Bool)⟩)) none <| .nil))) <|
  .ret)
  .skip)) <|
  (.seq (.aft (.seq (.pre [.keep [0, 1, 2, 7]] (.reg (.op (.mv 60 (.t 1)) none <| .op (.bin 61 .add (.t 60) (.c ⟨.int .i64, ((1 : Int) : Int)⟩)) none <| .op (.mv 10 (.t 61)) none <| .nil))) <|
  (.block 0 (.pre [.keep [0, 2, 7, 10]] (.loop n [0, 2, 7, 10] Y2)))) [.keep []]) X1)))))
noncomputable abbrev r08_pair.c (n : Nat) : XC := r08_pair.d n (r08_pair.c1 n) (r08_pair.cb2 n)
noncomputable def r08_pair.f (n : Nat) (a0 : List DRecord) (a1 : Int) (a2 : Int) : Option Bool :=
  idxK a0 a1 fun e1 => idxK a0 a2 fun e2 => (bif (decide (e2.1.1 = (5 : Int))) then ((bif (decide (e1.1.1 = (1 : Int))) then some true else (some (decide (e1.1.1 = (3 : Int))))).bind fun g4 =>
  some g4) else some false).bind fun g3 =>
  (bif g3 then some true else ((bif (decide (e2.1.1 = (6 : Int))) then (some (decide (e1.1.1 = (2 : Int)))) else some false).bind fun g6 =>
  some g6)).bind fun g5 =>
  (bif (!g5) then some true else (some (!decide (e1.1.2.2.1 = e2.1.2.2.1)))).bind fun g7 =>
  (bif g7 then some true else (some (!decide (e1.1.2.2.2.1 = e2.1.2.2.2.1)))).bind fun g8 =>
  bif g8 then (some false)
  else (r08_pair.l2 n n a0 a2 (e1.1.1, e1.1.2.1, e1.1.2.2.1, e1.1.2.2.2.1, e1.1.2.2.2.2.1, e1.1.2.2.2.2.2.1, e1.1.2.2.2.2.2.2.1, e1.1.2.2.2.2.2.2.2.1, e1.1.2.2.2.2.2.2.2.2) (IntKind.i64.wrap (a1 + (1 : Int))))
theorem r08_pair.w (n : Nat) (a0 : List DRecord) (a1 : Int) (a2 : Int) (X1 Y2 : XC) : evFn (r08_pair.d n X1 Y2) r08_pair.rs r08_pair.ps r08_pair.r (a0, a1, a2, ()) =
  (idxK a0 a1 fun e1 => idxK a0 a2 fun e2 => (bif (decide (e2.1.1 = (5 : Int))) then ((bif (decide (e1.1.1 = (1 : Int))) then some true else (some (decide (e1.1.1 = (3 : Int))))).bind fun g4 =>
  some g4) else some false).bind fun g3 =>
  (bif g3 then some true else ((bif (decide (e2.1.1 = (6 : Int))) then (some (decide (e1.1.1 = (2 : Int)))) else some false).bind fun g6 =>
  some g6)).bind fun g5 =>
  (bif (!g5) then some true else (some (!decide (e1.1.2.2.1 = e2.1.2.2.1)))).bind fun g7 =>
  (bif g7 then some true else (some (!decide (e1.1.2.2.2.1 = e2.1.2.2.2.1)))).bind fun g8 =>
  bif g8 then (some false)
  else (loopEv [0, 2, 7, 10] (fun s K => ev Y2 s (⟨retK r08_pair.rs r08_pair.ps r08_pair.r, [(0, (r08_pair.H1 n X1))]⟩ : Ks r08_pair.R) K) n [(0, some ⟨.slB .U false TRecord, a0⟩), (2, some ⟨.int .i64, a2⟩), (7, some ⟨.box TOp, ((e1.1.1, e1.1.2.1, e1.1.2.2.1, e1.1.2.2.2.1, e1.1.2.2.2.2.1, e1.1.2.2.2.2.2.1, e1.1.2.2.2.2.2.2.1, e1.1.2.2.2.2.2.2.2.1, e1.1.2.2.2.2.2.2.2.2) : DOp)⟩), (10, some ⟨.int .i64, (IntKind.i64.wrap (a1 + (1 : Int)))⟩)]) : Option r08_pair.R) := by kernel_rfl
theorem r08_pair.ok (n : Nat) (a0 : List DRecord) (a1 : Int) (a2 : Int) : evFn (r08_pair.c n) r08_pair.rs r08_pair.ps r08_pair.r (a0, a1, a2, ()) = r08_pair.f n a0 a1 a2 := (r08_pair.w n a0 a1 a2 (r08_pair.c1 n) (r08_pair.cb2 n)).trans (by simp -implicitDefEqProofs only [r08_pair.f, r08_pair.l2_ok n] <;> kernel_rfl)
noncomputable def r08_pair.sp (n : Nat) : FSpec := { f := 49, ps := r08_pair.ps, r := r08_pair.r, run := fun x => r08_pair.f n x.1 x.2.1 x.2.2.1 }
theorem r08_pair.calls (n : Nat) : (r08_pair.c n).calls = [r08_Touches.sp n, r08_entry.sp n, r08_content.sp n] := by kernel_rfl
theorem r08_pair.fits (n : Nat) : fnB tab hd Try.f49 (r08_pair.c n) r08_pair.rs (r08_pair.sp n).ps (r08_pair.sp n).r = true := by kernel_rfl
theorem r08_pair.sound (n : Nat) : Sound Try.prog (r08_pair.sp n) := by
  refine fnB_sound tabOk eqFacts mixed (fn := Try.f49) (c := r08_pair.c n) (rs := r08_pair.rs) (by kernel_rfl) ?_ (r08_pair.fits n) ?_
  · rw [r08_pair.calls]
    intro s hs
    simp only [List.mem_cons, List.not_mem_nil, or_false] at hs
    rcases hs with rfl | rfl | rfl
    · exact r08_Touches.meets n
    · exact r08_entry.meets n
    · exact r08_content.meets n
  · rintro ⟨a0, a1, a2, ⟨⟩⟩ y h
    exact (r08_pair.ok n a0 a1 a2).trans h
theorem r08_pair.meets (n : Nat) : Meets Try.prog (r08_pair.sp n) := (r08_pair.sound n).meets
/-! backwater/backwaterref08.once -/
abbrev r08_once.ps : List (Ty × Bool) := [(.slB .U false TRecord, false)]
abbrev r08_once.r : Ty := .tup (.pair (.slX .N TRecord) (.pair .bool .unit))
abbrev r08_once.rs : List RV := [.t 2, .t 3]
abbrev r08_once.R : Type := (rtOf r08_once.ps r08_once.r).den
noncomputable def r08_once.d1 (n : Nat) : XC :=
  (.seq (.reg (.op (.mv 2 (.c ⟨.nil 0, ()⟩)) none <| .op (.mv 3 (.c ⟨.bool, (false : Bool)⟩)) none <| .nil)) <|
  .ret)
noncomputable abbrev r08_once.c1 (n : Nat) : XC := r08_once.d1 n
noncomputable def r08_once.j1 (n : Nat)  : Option ((List DRecord) × Bool × Unit) :=
  some (([] : List DRecord), false, ())
theorem r08_once.s1 (n : Nat)  : ev (r08_once.c1 n) [] (⟨retK r08_once.rs r08_once.ps r08_once.r, []⟩ : Ks r08_once.R) (retK r08_once.rs r08_once.ps r08_once.r) = r08_once.j1 n  := by kernel_rfl
noncomputable def r08_once.H1 (n : Nat) (X : XC) : St → Option r08_once.R := fun st => ghK [.keep []] st fun st => ev X st (⟨retK r08_once.rs r08_once.ps r08_once.r, []⟩ : Ks r08_once.R) (retK r08_once.rs r08_once.ps r08_once.r)
noncomputable abbrev r08_once.K1 (n : Nat) : St → Option r08_once.R := r08_once.H1 n (r08_once.c1 n)
noncomputable def r08_once.Kb2 (Kr2 : St → Option r08_once.R) : St → Option r08_once.R := fun st => ghK [.keep [0, 4]] st Kr2
noncomputable def r08_once.d3 (n : Nat) : XC :=
  (.aft (.reg (.op (.mv 12 (.t 4)) none <| .op (.bin 13 .add (.t 12) (.c ⟨.int .i64, ((1 : Int) : Int)⟩)) none <| .op (.mv 4 (.t 13)) none <| .nil)) [.keep [0, 4]])
noncomputable abbrev r08_once.c3 (n : Nat) : XC := r08_once.d3 n
theorem r08_once.qb2_0 (Kr2 : St → Option r08_once.R) (kr2 : (List DRecord) → Int → Option ((List DRecord) × Bool × Unit)) (hK2 : ∀ (x0 : List DRecord) (x4 : Int), Kr2 [(0, some ⟨.slB .U false TRecord, x0⟩), (4, some ⟨.int .i64, x4⟩)] = kr2 x0 x4) (x0 : List DRecord) (x4 : Int) : r08_once.Kb2 Kr2 [(0, some ⟨.slB .U false TRecord, x0⟩), (4, some ⟨.int .i64, x4⟩)] = kr2 x0 x4 := (by kernel_rfl : _ = Kr2 [(0, some ⟨.slB .U false TRecord, x0⟩), (4, some ⟨.int .i64, x4⟩)]).trans (hK2 x0 x4)
noncomputable def r08_once.j3 (n : Nat) (kr2 : (List DRecord) → Int → Option ((List DRecord) × Bool × Unit)) (x0 : List DRecord) (x4 : Int) : Option ((List DRecord) × Bool × Unit) :=
  kr2 x0 (IntKind.i64.wrap (x4 + (1 : Int)))
theorem r08_once.w3 (n : Nat) (Kr2 : St → Option r08_once.R) (x0 : List DRecord) (x4 : Int) (K1 : St → Option r08_once.R) (Kb2 : St → Option r08_once.R) : ev (r08_once.d3 n) [(0, some ⟨.slB .U false TRecord, x0⟩), (4, some ⟨.int .i64, x4⟩)] (⟨retK r08_once.rs r08_once.ps r08_once.r, [(0, K1)]⟩ : Ks r08_once.R) Kb2 =
  (Kb2 [(0, some ⟨.slB .U false TRecord, x0⟩), (4, some ⟨.int .i64, (IntKind.i64.wrap (x4 + (1 : Int)))⟩)] : Option r08_once.R) := by kernel_rfl
theorem r08_once.s3 (n : Nat) (Kr2 : St → Option r08_once.R) (kr2 : (List DRecord) → Int → Option ((List DRecord) × Bool × Unit)) (hK2 : ∀ (x0 : List DRecord) (x4 : Int), Kr2 [(0, some ⟨.slB .U false TRecord, x0⟩), (4, some ⟨.int .i64, x4⟩)] = kr2 x0 x4) (x0 : List DRecord) (x4 : Int) : ev (r08_once.c3 n) [(0, some ⟨.slB .U false TRecord, x0⟩), (4, some ⟨.int .i64, x4⟩)] (⟨retK r08_once.rs r08_once.ps r08_once.r, [(0, (r08_once.K1 n))]⟩ : Ks r08_once.R) (r08_once.Kb2 Kr2) = r08_once.j3 n kr2 x0 x4 := (r08_once.w3 n Kr2 x0 x4 (r08_once.K1 n) (r08_once.Kb2 Kr2)).trans (by simp -implicitDefEqProofs only [r08_once.j3, r08_once.qb2_0 Kr2 kr2 hK2] <;> kernel_rfl)
noncomputable def r08_once.H3 (n : Nat) (K1 : St → Option r08_once.R) (Kb2 : St → Option r08_once.R) (X : XC) : St → Option r08_once.R := fun st => ghK [.keep [0, 4]] st fun st => ev X st (⟨retK r08_once.rs r08_once.ps r08_once.r, [(0, K1)]⟩ : Ks r08_once.R) Kb2
noncomputable abbrev r08_once.K3 (n : Nat) (Kr2 : St → Option r08_once.R) : St → Option r08_once.R := r08_once.H3 n (r08_once.K1 n) (r08_once.Kb2 Kr2) (r08_once.c3 n)
noncomputable def r08_once.Kb4 (Kr4 : St → Option r08_once.R) : St → Option r08_once.R := fun st => ghK [.keep [0, 4, 5]] st Kr4
noncomputable def r08_once.d5 (n : Nat) : XC :=
  (.aft (.reg (.op (.mv 20 (.t 5)) none <| .op (.bin 21 .add (.t 20) (.c ⟨.int .i64, ((1 : Int) : Int)⟩)) none <| .op (.mv 5 (.t 21)) none <| .nil)) [.keep [0, 4, 5]])
noncomputable abbrev r08_once.c5 (n : Nat) : XC := r08_once.d5 n
theorem r08_once.qb4_0 (Kr4 : St → Option r08_once.R) (kr4 : (List DRecord) → Int → Int → Option ((List DRecord) × Bool × Unit)) (hK4 : ∀ (x0 : List DRecord) (x4 : Int) (x5 : Int), Kr4 [(0, some ⟨.slB .U false TRecord, x0⟩), (4, some ⟨.int .i64, x4⟩), (5, some ⟨.int .i64, x5⟩)] = kr4 x0 x4 x5) (x0 : List DRecord) (x4 : Int) (x5 : Int) : r08_once.Kb4 Kr4 [(0, some ⟨.slB .U false TRecord, x0⟩), (4, some ⟨.int .i64, x4⟩), (5, some ⟨.int .i64, x5⟩)] = kr4 x0 x4 x5 := (by kernel_rfl : _ = Kr4 [(0, some ⟨.slB .U false TRecord, x0⟩), (4, some ⟨.int .i64, x4⟩), (5, some ⟨.int .i64, x5⟩)]).trans (hK4 x0 x4 x5)
noncomputable def r08_once.j5 (n : Nat) (kr2 : (List DRecord) → Int → Option ((List DRecord) × Bool × Unit)) (kr4 : (List DRecord) → Int → Int → Option ((List DRecord) × Bool × Unit)) (x0 : List DRecord) (x4 : Int) (x5 : Int) : Option ((List DRecord) × Bool × Unit) :=
  kr4 x0 x4 (IntKind.i64.wrap (x5 + (1 : Int)))
theorem r08_once.w5 (n : Nat) (Kr2 : St → Option r08_once.R) (Kr4 : St → Option r08_once.R) (x0 : List DRecord) (x4 : Int) (x5 : Int) (K3 : St → Option r08_once.R) (K1 : St → Option r08_once.R) (Kb4 : St → Option r08_once.R) : ev (r08_once.d5 n) [(0, some ⟨.slB .U false TRecord, x0⟩), (4, some ⟨.int .i64, x4⟩), (5, some ⟨.int .i64, x5⟩)] (⟨retK r08_once.rs r08_once.ps r08_once.r, [(2, K3), (1, K3), (0, K1)]⟩ : Ks r08_once.R) Kb4 =
  (Kb4 [(0, some ⟨.slB .U false TRecord, x0⟩), (4, some ⟨.int .i64, x4⟩), (5, some ⟨.int .i64, (IntKind.i64.wrap (x5 + (1 : Int)))⟩)] : Option r08_once.R) := by kernel_rfl
theorem r08_once.s5 (n : Nat) (Kr2 : St → Option r08_once.R) (Kr4 : St → Option r08_once.R) (kr2 : (List DRecord) → Int → Option ((List DRecord) × Bool × Unit)) (kr4 : (List DRecord) → Int → Int → Option ((List DRecord) × Bool × Unit)) (hK2 : ∀ (x0 : List DRecord) (x4 : Int), Kr2 [(0, some ⟨.slB .U false TRecord, x0⟩), (4, some ⟨.int .i64, x4⟩)] = kr2 x0 x4) (hK4 : ∀ (x0 : List DRecord) (x4 : Int) (x5 : Int), Kr4 [(0, some ⟨.slB .U false TRecord, x0⟩), (4, some ⟨.int .i64, x4⟩), (5, some ⟨.int .i64, x5⟩)] = kr4 x0 x4 x5) (x0 : List DRecord) (x4 : Int) (x5 : Int) : ev (r08_once.c5 n) [(0, some ⟨.slB .U false TRecord, x0⟩), (4, some ⟨.int .i64, x4⟩), (5, some ⟨.int .i64, x5⟩)] (⟨retK r08_once.rs r08_once.ps r08_once.r, [(2, (r08_once.K3 n Kr2)), (1, (r08_once.K3 n Kr2)), (0, (r08_once.K1 n))]⟩ : Ks r08_once.R) (r08_once.Kb4 Kr4) = r08_once.j5 n kr2 kr4 x0 x4 x5 := (r08_once.w5 n Kr2 Kr4 x0 x4 x5 (r08_once.K3 n Kr2) (r08_once.K1 n) (r08_once.Kb4 Kr4)).trans (by simp -implicitDefEqProofs only [r08_once.j5, r08_once.qb4_0 Kr4 kr4 hK4] <;> kernel_rfl)
noncomputable def r08_once.H5 (n : Nat) (K3 : St → Option r08_once.R) (K1 : St → Option r08_once.R) (Kb4 : St → Option r08_once.R) (X : XC) : St → Option r08_once.R := fun st => ghK [.keep [0, 4, 5]] st fun st => ev X st (⟨retK r08_once.rs r08_once.ps r08_once.r, [(2, K3), (1, K3), (0, K1)]⟩ : Ks r08_once.R) Kb4
noncomputable abbrev r08_once.K5 (n : Nat) (Kr2 : St → Option r08_once.R) (Kr4 : St → Option r08_once.R) : St → Option r08_once.R := r08_once.H5 n (r08_once.K3 n Kr2) (r08_once.K1 n) (r08_once.Kb4 Kr4) (r08_once.c5 n)
noncomputable def r08_once.d6 (n : Nat) : XC :=
  (.aft (.seq (.reg (.op (.take 72 6) none <| .op (.take 2 72) none <| .op (.mv 3 (.c ⟨.bool, (true : Bool)⟩)) none <| .nil)) <|
  .ret) [.keep [0, 4, 5]])
noncomputable abbrev r08_once.c6 (n : Nat) : XC := r08_once.d6 n
noncomputable def r08_once.j6 (n : Nat) (kr2 : (List DRecord) → Int → Option ((List DRecord) × Bool × Unit)) (kr4 : (List DRecord) → Int → Int → Option ((List DRecord) × Bool × Unit)) (x6 : List DRecord) : Option ((List DRecord) × Bool × Unit) :=
  some (x6, true, ())
theorem r08_once.s6 (n : Nat) (Kr2 : St → Option r08_once.R) (Kr4 : St → Option r08_once.R) (kr2 : (List DRecord) → Int → Option ((List DRecord) × Bool × Unit)) (kr4 : (List DRecord) → Int → Int → Option ((List DRecord) × Bool × Unit)) (hK2 : ∀ (x0 : List DRecord) (x4 : Int), Kr2 [(0, some ⟨.slB .U false TRecord, x0⟩), (4, some ⟨.int .i64, x4⟩)] = kr2 x0 x4) (hK4 : ∀ (x0 : List DRecord) (x4 : Int) (x5 : Int), Kr4 [(0, some ⟨.slB .U false TRecord, x0⟩), (4, some ⟨.int .i64, x4⟩), (5, some ⟨.int .i64, x5⟩)] = kr4 x0 x4 x5) (x6 : List DRecord) : ev (r08_once.c6 n) [(6, some ⟨.slX .N TRecord, x6⟩)] (⟨retK r08_once.rs r08_once.ps r08_once.r, [(3, (r08_once.K5 n Kr2 Kr4)), (2, (r08_once.K3 n Kr2)), (1, (r08_once.K3 n Kr2)), (0, (r08_once.K1 n))]⟩ : Ks r08_once.R) (r08_once.K5 n Kr2 Kr4) = r08_once.j6 n kr2 kr4 x6 := by kernel_rfl
noncomputable def r08_once.H6 (n : Nat) (K5 : St → Option r08_once.R) (K3 : St → Option r08_once.R) (K1 : St → Option r08_once.R) (X : XC) : St → Option r08_once.R := fun st => ghK [.keep [6]] st fun st => ev X st (⟨retK r08_once.rs r08_once.ps r08_once.r, [(3, K5), (2, K3), (1, K3), (0, K1)]⟩ : Ks r08_once.R) K5
noncomputable abbrev r08_once.K6 (n : Nat) (Kr2 : St → Option r08_once.R) (Kr4 : St → Option r08_once.R) : St → Option r08_once.R := r08_once.H6 n (r08_once.K5 n Kr2 Kr4) (r08_once.K3 n Kr2) (r08_once.K1 n) (r08_once.c6 n)
noncomputable def r08_once.Kb7 (Kr7 : St → Option r08_once.R) : St → Option r08_once.R := fun st => ghK [.keep [0, 4, 5, 6, 7]] st Kr7
noncomputable def r08_once.d8 (n : Nat) : XC :=
  (.aft (.reg (.op (.mv 31 (.t 7)) none <| .op (.bin 32 .add (.t 31) (.c ⟨.int .i64, ((1 : Int) : Int)⟩)) none <| .op (.mv 7 (.t 32)) none <| .nil)) [.keep [0, 4, 5, 6, 7]])
noncomputable abbrev r08_once.c8 (n : Nat) : XC := r08_once.d8 n
theorem r08_once.qb7_0 (Kr7 : St → Option r08_once.R) (kr7 : (List DRecord) → Int → Int → (List DRecord) → Int → Option ((List DRecord) × Bool × Unit)) (hK7 : ∀ (x0 : List DRecord) (x4 : Int) (x5 : Int) (x6 : List DRecord) (x7 : Int), Kr7 [(0, some ⟨.slB .U false TRecord, x0⟩), (4, some ⟨.int .i64, x4⟩), (5, some ⟨.int .i64, x5⟩), (6, some ⟨.slX .N TRecord, x6⟩), (7, some ⟨.int .i64, x7⟩)] = kr7 x0 x4 x5 x6 x7) (x0 : List DRecord) (x4 : Int) (x5 : Int) (x6 : List DRecord) (x7 : Int) : r08_once.Kb7 Kr7 [(0, some ⟨.slB .U false TRecord, x0⟩), (4, some ⟨.int .i64, x4⟩), (5, some ⟨.int .i64, x5⟩), (6, some ⟨.slX .N TRecord, x6⟩), (7, some ⟨.int .i64, x7⟩)] = kr7 x0 x4 x5 x6 x7 := (by kernel_rfl : _ = Kr7 [(0, some ⟨.slB .U false TRecord, x0⟩), (4, some ⟨.int .i64, x4⟩), (5, some ⟨.int .i64, x5⟩), (6, some ⟨.slX .N TRecord, x6⟩), (7, some ⟨.int .i64, x7⟩)]).trans (hK7 x0 x4 x5 x6 x7)
noncomputable def r08_once.j8 (n : Nat) (kr2 : (List DRecord) → Int → Option ((List DRecord) × Bool × Unit)) (kr4 : (List DRecord) → Int → Int → Option ((List DRecord) × Bool × Unit)) (kr7 : (List DRecord) → Int → Int → (List DRecord) → Int → Option ((List DRecord) × Bool × Unit)) (x0 : List DRecord) (x4 : Int) (x5 : Int) (x6 : List DRecord) (x7 : Int) : Option ((List DRecord) × Bool × Unit) :=
  kr7 x0 x4 x5 x6 (IntKind.i64.wrap (x7 + (1 : Int)))
theorem r08_once.w8 (n : Nat) (Kr2 : St → Option r08_once.R) (Kr4 : St → Option r08_once.R) (Kr7 : St → Option r08_once.R) (x0 : List DRecord) (x4 : Int) (x5 : Int) (x6 : List DRecord) (x7 : Int) (K6 : St → Option r08_once.R) (K5 : St → Option r08_once.R) (K3 : St → Option r08_once.R) (K1 : St → Option r08_once.R) (Kb7 : St → Option r08_once.R) : ev (r08_once.d8 n) [(0, some ⟨.slB .U false TRecord, x0⟩), (4, some ⟨.int .i64, x4⟩), (5, some ⟨.int .i64, x5⟩), (6, some ⟨.slX .N TRecord, x6⟩), (7, some ⟨.int .i64, x7⟩)] (⟨retK r08_once.rs r08_once.ps r08_once.r, [(4, K6), (3, K5), (2, K3), (1, K3), (0, K1)]⟩ : Ks r08_once.R) Kb7 =
  (Kb7 [(0, some ⟨.slB .U false TRecord, x0⟩), (4, some ⟨.int .i64, x4⟩), (5, some ⟨.int .i64, x5⟩), (6, some ⟨.slX .N TRecord, x6⟩), (7, some ⟨.int .i64, (IntKind.i64.wrap (x7 + (1 : Int)))⟩)] : Option r08_once.R) := by kernel_rfl
theorem r08_once.s8 (n : Nat) (Kr2 : St → Option r08_once.R) (Kr4 : St → Option r08_once.R) (Kr7 : St → Option r08_once.R) (kr2 : (List DRecord) → Int → Option ((List DRecord) × Bool × Unit)) (kr4 : (List DRecord) → Int → Int → Option ((List DRecord) × Bool × Unit)) (kr7 : (List DRecord) → Int → Int → (List DRecord) → Int → Option ((List DRecord) × Bool × Unit)) (hK2 : ∀ (x0 : List DRecord) (x4 : Int), Kr2 [(0, some ⟨.slB .U false TRecord, x0⟩), (4, some ⟨.int .i64, x4⟩)] = kr2 x0 x4) (hK4 : ∀ (x0 : List DRecord) (x4 : Int) (x5 : Int), Kr4 [(0, some ⟨.slB .U false TRecord, x0⟩), (4, some ⟨.int .i64, x4⟩), (5, some ⟨.int .i64, x5⟩)] = kr4 x0 x4 x5) (hK7 : ∀ (x0 : List DRecord) (x4 : Int) (x5 : Int) (x6 : List DRecord) (x7 : Int), Kr7 [(0, some ⟨.slB .U false TRecord, x0⟩), (4, some ⟨.int .i64, x4⟩), (5, some ⟨.int .i64, x5⟩), (6, some ⟨.slX .N TRecord, x6⟩), (7, some ⟨.int .i64, x7⟩)] = kr7 x0 x4 x5 x6 x7) (x0 : List DRecord) (x4 : Int) (x5 : Int) (x6 : List DRecord) (x7 : Int) : ev (r08_once.c8 n) [(0, some ⟨.slB .U false TRecord, x0⟩), (4, some ⟨.int .i64, x4⟩), (5, some ⟨.int .i64, x5⟩), (6, some ⟨.slX .N TRecord, x6⟩), (7, some ⟨.int .i64, x7⟩)] (⟨retK r08_once.rs r08_once.ps r08_once.r, [(4, (r08_once.K6 n Kr2 Kr4)), (3, (r08_once.K5 n Kr2 Kr4)), (2, (r08_once.K3 n Kr2)), (1, (r08_once.K3 n Kr2)), (0, (r08_once.K1 n))]⟩ : Ks r08_once.R) (r08_once.Kb7 Kr7) = r08_once.j8 n kr2 kr4 kr7 x0 x4 x5 x6 x7 := (r08_once.w8 n Kr2 Kr4 Kr7 x0 x4 x5 x6 x7 (r08_once.K6 n Kr2 Kr4) (r08_once.K5 n Kr2 Kr4) (r08_once.K3 n Kr2) (r08_once.K1 n) (r08_once.Kb7 Kr7)).trans (by simp -implicitDefEqProofs only [r08_once.j8, r08_once.qb7_0 Kr7 kr7 hK7] <;> kernel_rfl)
noncomputable def r08_once.H8 (n : Nat) (K6 : St → Option r08_once.R) (K5 : St → Option r08_once.R) (K3 : St → Option r08_once.R) (K1 : St → Option r08_once.R) (Kb7 : St → Option r08_once.R) (X : XC) : St → Option r08_once.R := fun st => ghK [.keep [0, 4, 5, 6, 7]] st fun st => ev X st (⟨retK r08_once.rs r08_once.ps r08_once.r, [(4, K6), (3, K5), (2, K3), (1, K3), (0, K1)]⟩ : Ks r08_once.R) Kb7
noncomputable abbrev r08_once.K8 (n : Nat) (Kr2 : St → Option r08_once.R) (Kr4 : St → Option r08_once.R) (Kr7 : St → Option r08_once.R) : St → Option r08_once.R := r08_once.H8 n (r08_once.K6 n Kr2 Kr4) (r08_once.K5 n Kr2 Kr4) (r08_once.K3 n Kr2) (r08_once.K1 n) (r08_once.Kb7 Kr7) (r08_once.c8 n)
noncomputable def r08_once.db7 (n : Nat) (X8 : XC) : XC :=
  (.aft (.seq (.seq (.reg (.op (.mv 27 (.t 7)) none <| .op (.mv 28 (.t 0)) none <| .op (.len 29 (.t 28) false) none <| .op (.bin 30 .lss (.t 27) (.t 29)) none <| .nil)) <|
  (.cond (.t 30)
  .skip
  (.pre [.keep [6]] (.exit 4)))) <|
  (.seq (.aft (.block 5 (.seq (.regD (.op (.mv 33 (.t 7)) (some ([7, 33], [33])) <| .op (.mv 34 (.t 4)) (some ([4, 34], [34])) <| .op (.bin 35 .neq (.t 33) (.t 34)) (some ([33, 34, 35], [35])) <| .op (.mv 36 (.t 35)) (some ([35, 36], [36])) <| .grp 36 true (.op (.mv 37 (.t 7)) (some ([7, 36, 37], [37])) <| .op (.mv 38 (.t 5)) (some ([5, 36, 38], [38])) <| .op (.bin 39 .neq (.t 37) (.t 38)) (some ([36, 37, 38, 39], [39])) <| .nil) 39 40 [37, 38, 39] <| .op (.mv 41 (.t 40)) (some ([40, 41], [41])) <| .grp 41 true (.op (.mv 42 (.t 7)) (some ([7, 41, 42], [42])) <| .op (.mv 43 (.t 4)) (some ([4, 41, 43], [43])) <| .op (.bin 44 .gtr (.t 42) (.t 43)) (some ([41, 42, 43, 44], [44])) <| .op (.mv 45 (.t 44)) (some ([41, 44, 45], [45])) <| .grp 45 true (.op (.mv 46 (.t 7)) (some ([7, 45, 46], [46])) <| .op (.mv 47 (.t 5)) (some ([5, 45, 47], [47])) <| .op (.bin 48 .lss (.t 46) (.t 47)) (some ([45, 46, 47, 48], [48])) <| .nil) 48 49 [46, 47, 48] <| .op (.mv 50 (.t 49)) (some ([41, 49, 50], [50])) <| .grp 50 true (.op (.mv 51 (.t 0)) (some ([0, 50, 51], [51])) <| .op (.mv 52 (.t 7)) (some ([7, 50, 52], [52])) <| .op (.idxA 53 (.t 51) (.t 52) 9 0) (some ([50, 51, 52, 53], [53])) <| .op (.ld 54 53 9 true) (some ([50, 53, 54], [54])) <| .op (.mv 55 (.t 0)) (some ([0, 50, 55], [55])) <| .op (.mv 56 (.t 4)) (some ([4, 50, 56], [56])) <| .op (.idxA 57 (.t 55) (.t 56) 9 0) (some ([50, 55, 56, 57], [57])) <| .op (.fa 58 57 0 0) (some ([50, 57, 58], [58])) <| .op (.fa 59 58 1 1) (some ([50, 58, 59], [59])) <| .op (.ld 60 59 1 false) (some ([50, 59, 60], [60])) <| .op (.call (some 61) (r08_Touches.sp n) [.v (.t 54), .v (.t 60)]) (some ([50, 54, 60, 61], [61])) <| .nil) 61 62 [51, 52, 53, 54, 55, 56, 57, 58, 59, 60, 61] <| .op (.un 63 .not (.t 62)) (some ([41, 62, 63], [63])) <| .nil) 63 64 [42, 43, 44, 45, 46, 47, 48, 49, 50, 51, 52, 53, 54, 55, 56, 57, 58, 59, 60, 61, 62, 63] <| .nil)) <|
  (.cond (.t 64)
  (.pre [.keep [0, 4, 5, 6, 7]] (.reg (.op (.take 65 6) none <| .op (.mv 66 (.t 0)) none <| .op (.mv 67 (.t 7)) none <| .op (.idxA 68 (.t 66) (.t 67) 9 0) none <| .op (.ld 69 68 9 true) none <| .op (.bsl 70 TRecord [(.t 69)]) none <| .op (.app 71 65 (.t 70) 88 9) none <| .op (.take 6 71) none <| .nil)))
  .skip))) [.keep [0, 4, 5, 6, 7]]) X8)) [.keep [0, 4, 5, 6, 7]])
noncomputable abbrev r08_once.cb7 (n : Nat) : XC := r08_once.db7 n (r08_once.c8 n)
theorem r08_once.q6_0_r (n : Nat) (Kr2 : St → Option r08_once.R) (Kr4 : St → Option r08_once.R) (K5 : St → Option r08_once.R) (K3 : St → Option r08_once.R) (K1 : St → Option r08_once.R) (X : XC) (x6 : List DRecord) : r08_once.H6 n K5 K3 K1 X [(6, some ⟨.slX .N TRecord, x6⟩)] = (ev X [(6, some ⟨.slX .N TRecord, x6⟩)] (⟨retK r08_once.rs r08_once.ps r08_once.r, [(3, K5), (2, K3), (1, K3), (0, K1)]⟩ : Ks r08_once.R) K5 : Option r08_once.R) := by kernel_rfl
theorem r08_once.q6_0 (n : Nat) (Kr2 : St → Option r08_once.R) (Kr4 : St → Option r08_once.R) (kr2 : (List DRecord) → Int → Option ((List DRecord) × Bool × Unit)) (kr4 : (List DRecord) → Int → Int → Option ((List DRecord) × Bool × Unit)) (hK2 : ∀ (x0 : List DRecord) (x4 : Int), Kr2 [(0, some ⟨.slB .U false TRecord, x0⟩), (4, some ⟨.int .i64, x4⟩)] = kr2 x0 x4) (hK4 : ∀ (x0 : List DRecord) (x4 : Int) (x5 : Int), Kr4 [(0, some ⟨.slB .U false TRecord, x0⟩), (4, some ⟨.int .i64, x4⟩), (5, some ⟨.int .i64, x5⟩)] = kr4 x0 x4 x5) (x6 : List DRecord) : r08_once.K6 n Kr2 Kr4 [(6, some ⟨.slX .N TRecord, x6⟩)] = r08_once.j6 n kr2 kr4 x6 := (r08_once.q6_0_r n Kr2 Kr4 (r08_once.K5 n Kr2 Kr4) (r08_once.K3 n Kr2) (r08_once.K1 n) (r08_once.c6 n) x6).trans (r08_once.s6 n Kr2 Kr4 kr2 kr4 hK2 hK4 x6)
noncomputable def r08_once.l7 (n : Nat) (kr2 : (List DRecord) → Int → Option ((List DRecord) × Bool × Unit)) (kr4 : (List DRecord) → Int → Int → Option ((List DRecord) × Bool × Unit)) : Nat → (List DRecord) → Int → Int → (List DRecord) → Int → Option ((List DRecord) × Bool × Unit)
  | 0, _, _, _, _, _ => none
  | k + 1, x0, x4, x5, x6, x7 =>
  bif (decide (x7 < (x0.length : Int))) then ((bif (!decide (x7 = x4)) then (some (!decide (x7 = x5))) else some false).bind fun g1 =>
  (bif g1 then ((bif (decide (x4 < x7)) then (some (decide (x7 < x5))) else some false).bind fun g3 =>
  (bif g3 then (idxK x0 x7 fun e5 => idxK x0 x4 fun e6 => (r08_Touches.f n ((e5.1.1, e5.1.2.1, e5.1.2.2.1, e5.1.2.2.2.1, e5.1.2.2.2.2.1, e5.1.2.2.2.2.2.1, e5.1.2.2.2.2.2.2.1, e5.1.2.2.2.2.2.2.2.1, e5.1.2.2.2.2.2.2.2.2), e5.2.1, e5.2.2) e6.1.2.1).bind fun r7 => some r7) else some false).bind fun g4 =>
  some (!g4)) else some false).bind fun g2 =>
  bif g2 then (idxK x0 x7 fun e8 => appK x6.length ([e8] : List DRecord).length 88 (r08_once.j8 n kr2 kr4 (r08_once.l7 n kr2 kr4 k) x0 x4 x5 (x6 ++ ([e8] : List DRecord)) x7))
  else (r08_once.j8 n kr2 kr4 (r08_once.l7 n kr2 kr4 k) x0 x4 x5 x6 x7))
  else (r08_once.j6 n kr2 kr4 x6)
theorem r08_once.wb7 (n : Nat) (Kr2 : St → Option r08_once.R) (Kr4 : St → Option r08_once.R) (Kr7 : St → Option r08_once.R) (x0 : List DRecord) (x4 : Int) (x5 : Int) (x6 : List DRecord) (x7 : Int) (K6 : St → Option r08_once.R) (K5 : St → Option r08_once.R) (K3 : St → Option r08_once.R) (K1 : St → Option r08_once.R) (X8 : XC) : ev (r08_once.db7 n X8) (keepSt [(0, some ⟨.slB .U false TRecord, x0⟩), (4, some ⟨.int .i64, x4⟩), (5, some ⟨.int .i64, x5⟩), (6, some ⟨.slX .N TRecord, x6⟩), (7, some ⟨.int .i64, x7⟩)] [0, 4, 5, 6, 7]) (⟨retK r08_once.rs r08_once.ps r08_once.r, [(4, K6), (3, K5), (2, K3), (1, K3), (0, K1)]⟩ : Ks r08_once.R) Kr7 =
  (bif (decide (x7 < (x0.length : Int))) then ((bif (!decide (x7 = x4)) then (some (!decide (x7 = x5))) else some false).bind fun g1 =>
  (bif g1 then ((bif (decide (x4 < x7)) then (some (decide (x7 < x5))) else some false).bind fun g3 =>
  (bif g3 then (idxK x0 x7 fun e5 => idxK x0 x4 fun e6 => (r08_Touches.f n ((e5.1.1, e5.1.2.1, e5.1.2.2.1, e5.1.2.2.2.1, e5.1.2.2.2.2.1, e5.1.2.2.2.2.2.1, e5.1.2.2.2.2.2.2.1, e5.1.2.2.2.2.2.2.2.1, e5.1.2.2.2.2.2.2.2.2), e5.2.1, e5.2.2) e6.1.2.1).bind fun r7 => some r7) else some false).bind fun g4 =>
  some (!g4)) else some false).bind fun g2 =>
  bif g2 then (idxK x0 x7 fun e8 => appK x6.length ([e8] : List DRecord).length 88 (ev X8 [(0, some ⟨.slB .U false TRecord, x0⟩), (4, some ⟨.int .i64, x4⟩), (5, some ⟨.int .i64, x5⟩), (6, some ⟨.slX .N TRecord, ((x6 ++ ([e8] : List DRecord)) : List DRecord)⟩), (7, some ⟨.int .i64, x7⟩)] (⟨retK r08_once.rs r08_once.ps r08_once.r, [(4, K6), (3, K5), (2, K3), (1, K3), (0, K1)]⟩ : Ks r08_once.R) (r08_once.Kb7 Kr7)))
  else (ev X8 [(0, some ⟨.slB .U false TRecord, x0⟩), (4, some ⟨.int .i64, x4⟩), (5, some ⟨.int .i64, x5⟩), (6, some ⟨.slX .N TRecord, x6⟩), (7, some ⟨.int .i64, x7⟩)] (⟨retK r08_once.rs r08_once.ps r08_once.r, [(4, K6), (3, K5), (2, K3), (1, K3), (0, K1)]⟩ : Ks r08_once.R) (r08_once.Kb7 Kr7)))
  else (K6 [(6, some ⟨.slX .N TRecord, x6⟩)]) : Option r08_once.R) := by kernel_rfl
theorem r08_once.l7_ok (n : Nat) (Kr2 : St → Option r08_once.R) (Kr4 : St → Option r08_once.R) (kr2 : (List DRecord) → Int → Option ((List DRecord) × Bool × Unit)) (kr4 : (List DRecord) → Int → Int → Option ((List DRecord) × Bool × Unit)) (hK2 : ∀ (x0 : List DRecord) (x4 : Int), Kr2 [(0, some ⟨.slB .U false TRecord, x0⟩), (4, some ⟨.int .i64, x4⟩)] = kr2 x0 x4) (hK4 : ∀ (x0 : List DRecord) (x4 : Int) (x5 : Int), Kr4 [(0, some ⟨.slB .U false TRecord, x0⟩), (4, some ⟨.int .i64, x4⟩), (5, some ⟨.int .i64, x5⟩)] = kr4 x0 x4 x5) (k : Nat) : ∀ (x0 : List DRecord) (x4 : Int) (x5 : Int) (x6 : List DRecord) (x7 : Int), loopEv [0, 4, 5, 6, 7] (fun s K => ev (r08_once.cb7 n) s (⟨retK r08_once.rs r08_once.ps r08_once.r, [(4, (r08_once.K6 n Kr2 Kr4)), (3, (r08_once.K5 n Kr2 Kr4)), (2, (r08_once.K3 n Kr2)), (1, (r08_once.K3 n Kr2)), (0, (r08_once.K1 n))]⟩ : Ks r08_once.R) K) k [(0, some ⟨.slB .U false TRecord, x0⟩), (4, some ⟨.int .i64, x4⟩), (5, some ⟨.int .i64, x5⟩), (6, some ⟨.slX .N TRecord, x6⟩), (7, some ⟨.int .i64, x7⟩)] = r08_once.l7 n kr2 kr4 k x0 x4 x5 x6 x7 := by
  induction k with
  | zero => intros; rfl
  | succ k ih =>
    intro x0 x4 x5 x6 x7
    exact (r08_once.wb7 n Kr2 Kr4 (fun st => loopEv [0, 4, 5, 6, 7] (fun s K => ev (r08_once.cb7 n) s (⟨retK r08_once.rs r08_once.ps r08_once.r, [(4, (r08_once.K6 n Kr2 Kr4)), (3, (r08_once.K5 n Kr2 Kr4)), (2, (r08_once.K3 n Kr2)), (1, (r08_once.K3 n Kr2)), (0, (r08_once.K1 n))]⟩ : Ks r08_once.R) K) k st) x0 x4 x5 x6 x7 (r08_once.K6 n Kr2 Kr4) (r08_once.K5 n Kr2 Kr4) (r08_once.K3 n Kr2) (r08_once.K1 n) (r08_once.c8 n)).trans (by simp -implicitDefEqProofs only [r08_once.l7, r08_once.s8 n Kr2 Kr4 (fun st => loopEv [0, 4, 5, 6, 7] (fun s K => ev (r08_once.cb7 n) s (⟨retK r08_once.rs r08_once.ps r08_once.r, [(4, (r08_once.K6 n Kr2 Kr4)), (3, (r08_once.K5 n Kr2 Kr4)), (2, (r08_once.K3 n Kr2)), (1, (r08_once.K3 n Kr2)), (0, (r08_once.K1 n))]⟩ : Ks r08_once.R) K) k st) kr2 kr4 (r08_once.l7 n kr2 kr4 k) hK2 hK4 ih, r08_once.q6_0 n Kr2 Kr4 kr2 kr4 hK2 hK4] <;> kernel_rfl)
noncomputable def r08_once.db4 (n : Nat) (X5 X6 Y7 : XC) : XC :=
  (.aft (.seq (.seq (.reg (.op (.mv 16 (.t 5)) none <| .op (.mv 17 (.t 0)) none <| .op (.len 18 (.t 17) false) none <| .op (.bin 19 .lss (.t 16) (.t 18)) none <| .nil)) <|
  (.cond (.t 19)
  .skip
  (.pre [.keep [0, 4]] (.exit 2)))) <|
  (.seq (.aft (.block 3 (.seq (.seq (.reg (.op (.mv 22 (.t 0)) none <| .op (.mv 23 (.t 4)) none <| .op (.mv 24 (.t 5)) none <| .op (.call (some 25) (r08_pair.sp n) [.v (.t 22), .v (.t 23), .v (.t 24)]) none <| .op (.un 26 .not (.t 25)) none <| .nil)) <|
  (.cond (.t 26)
  (.pre [.keep [0, 4, 5]] (.exit 3))
  .skip)) <|
  (.seq (.reg (.op (.mv 6 (.c ⟨.nil 0, ()⟩)) none <| .nil)) <|
  (.seq (.aft (.seq (.reg (.op (.mv 7 (.c ⟨.int .i64, ((0 : Int) : Int)⟩)) none <| .nil)) <|
  (.block 4 (.pre [.coe 6 (.slX .N TRecord), .keep [0, 4, 5, 6, 7]] (.loop n [0, 4, 5, 6, 7] Y7)))) [.keep [6]]) X6)))) [.keep [0, 4, 5]]) X5)) [.keep [0, 4, 5]])
noncomputable abbrev r08_once.cb4 (n : Nat) : XC := r08_once.db4 n (r08_once.c5 n) (r08_once.c6 n) (r08_once.cb7 n)
theorem r08_once.q3_0_r (n : Nat) (Kr2 : St → Option r08_once.R) (K1 : St → Option r08_once.R) (Kb2 : St → Option r08_once.R) (X : XC) (x0 : List DRecord) (x4 : Int) : r08_once.H3 n K1 Kb2 X [(0, some ⟨.slB .U false TRecord, x0⟩), (4, some ⟨.int .i64, x4⟩)] = (ev X [(0, some ⟨.slB .U false TRecord, x0⟩), (4, some ⟨.int .i64, x4⟩)] (⟨retK r08_once.rs r08_once.ps r08_once.r, [(0, K1)]⟩ : Ks r08_once.R) Kb2 : Option r08_once.R) := by kernel_rfl
theorem r08_once.q3_0 (n : Nat) (Kr2 : St → Option r08_once.R) (kr2 : (List DRecord) → Int → Option ((List DRecord) × Bool × Unit)) (hK2 : ∀ (x0 : List DRecord) (x4 : Int), Kr2 [(0, some ⟨.slB .U false TRecord, x0⟩), (4, some ⟨.int .i64, x4⟩)] = kr2 x0 x4) (x0 : List DRecord) (x4 : Int) : r08_once.K3 n Kr2 [(0, some ⟨.slB .U false TRecord, x0⟩), (4, some ⟨.int .i64, x4⟩)] = r08_once.j3 n kr2 x0 x4 := (r08_once.q3_0_r n Kr2 (r08_once.K1 n) (r08_once.Kb2 Kr2) (r08_once.c3 n) x0 x4).trans (r08_once.s3 n Kr2 kr2 hK2 x0 x4)
noncomputable def r08_once.l4 (n : Nat) (kr2 : (List DRecord) → Int → Option ((List DRecord) × Bool × Unit)) : Nat → (List DRecord) → Int → Int → Option ((List DRecord) × Bool × Unit)
  | 0, _, _, _ => none
  | k + 1, x0, x4, x5 =>
  bif (decide (x5 < (x0.length : Int))) then ((r08_pair.f n x0 x4 x5).bind fun r1 => bif (!r1) then (r08_once.j5 n kr2 (r08_once.l4 n kr2 k) x0 x4 x5)
  else (r08_once.l7 n kr2 (r08_once.l4 n kr2 k) n x0 x4 x5 ([] : List DRecord) (0 : Int)))
  else (r08_once.j3 n kr2 x0 x4)
theorem r08_once.wb4 (n : Nat) (Kr2 : St → Option r08_once.R) (Kr4 : St → Option r08_once.R) (x0 : List DRecord) (x4 : Int) (x5 : Int) (K3 : St → Option r08_once.R) (K1 : St → Option r08_once.R) (X5 X6 Y7 : XC) : ev (r08_once.db4 n X5 X6 Y7) (keepSt [(0, some ⟨.slB .U false TRecord, x0⟩), (4, some ⟨.int .i64, x4⟩), (5, some ⟨.int .i64, x5⟩)] [0, 4, 5]) (⟨retK r08_once.rs r08_once.ps r08_once.r, [(2, K3), (1, K3), (0, K1)]⟩ : Ks r08_once.R) Kr4 =
  (bif (decide (x5 < (x0.length : Int))) then ((r08_pair.f n x0 x4 x5).bind fun r1 => bif (!r1) then (ev X5 [(0, some ⟨.slB .U false TRecord, x0⟩), (4, some ⟨.int .i64, x4⟩), (5, some ⟨.int .i64, x5⟩)] (⟨retK r08_once.rs r08_once.ps r08_once.r, [(2, K3), (1, K3), (0, K1)]⟩ : Ks r08_once.R) (r08_once.Kb4 Kr4))
  else (loopEv [0, 4, 5, 6, 7] (fun s K => ev Y7 s (⟨retK r08_once.rs r08_once.ps r08_once.r, [(4, (r08_once.H6 n (r08_once.H5 n K3 K1 (r08_once.Kb4 Kr4) X5) K3 K1 X6)), (3, (r08_once.H5 n K3 K1 (r08_once.Kb4 Kr4) X5)), (2, K3), (1, K3), (0, K1)]⟩ : Ks r08_once.R) K) n [(0, some ⟨.slB .U false TRecord, x0⟩), (4, some ⟨.int .i64, x4⟩), (5, some ⟨.int .i64, x5⟩), (6, some ⟨.slX .N TRecord, (([] : List DRecord) : List DRecord)⟩), (7, some ⟨.int .i64, (0 : Int)⟩)]))
  else (K3 [(0, some ⟨.slB .U false TRecord, x0⟩), (4, some ⟨.int .i64, x4⟩)]) : Option r08_once.R) := by kernel_rfl
theorem r08_once.l4_ok (n : Nat) (Kr2 : St → Option r08_once.R) (kr2 : (List DRecord) → Int → Option ((List DRecord) × Bool × Unit)) (hK2 : ∀ (x0 : List DRecord) (x4 : Int), Kr2 [(0, some ⟨.slB .U false TRecord, x0⟩), (4, some ⟨.int .i64, x4⟩)] = kr2 x0 x4) (k : Nat) : ∀ (x0 : List DRecord) (x4 : Int) (x5 : Int), loopEv [0, 4, 5] (fun s K => ev (r08_once.cb4 n) s (⟨retK r08_once.rs r08_once.ps r08_once.r, [(2, (r08_once.K3 n Kr2)), (1, (r08_once.K3 n Kr2)), (0, (r08_once.K1 n))]⟩ : Ks r08_once.R) K) k [(0, some ⟨.slB .U false TRecord, x0⟩), (4, some ⟨.int .i64, x4⟩), (5, some ⟨.int .i64, x5⟩)] = r08_once.l4 n kr2 k x0 x4 x5 := by
  induction k with
  | zero => intros; rfl
  | succ k ih =>
    intro x0 x4 x5
    exact (r08_once.wb4 n Kr2 (fun st => loopEv [0, 4, 5] (fun s K => ev (r08_once.cb4 n) s (⟨retK r08_once.rs r08_once.ps r08_once.r, [(2, (r08_once.K3 n Kr2)), (1, (r08_once.K3 n Kr2)), (0, (r08_once.K1 n))]⟩ : Ks r08_once.R) K) k st) x0 x4 x5 (r08_once.K3 n Kr2) (r08_once.K1 n) (r08_once.c5 n) (r08_once.c6 n) (r08_once.cb7 n)).trans (by simp -implicitDefEqProofs only [r08_once.l4, r08_once.s5 n Kr2 (fun st => loopEv [0, 4, 5] (fun s K => ev (r08_once.cb4 n) s (⟨retK r08_once.rs r08_once.ps r08_once.r, [(2, (r08_once.K3 n Kr2)), (1, (r08_once.K3 n Kr2)), (0, (r08_once.K1 n))]⟩ : Ks r08_once.R) K) k st) kr2 (r08_once.l4 n kr2 k) hK2 ih, r08_once.l7_ok n Kr2 (fun st => loopEv [0, 4, 5] (fun s K => ev (r08_once.cb4 n) s (⟨retK r08_once.rs r08_once.ps r08_once.r, [(2, (r08_once.K3 n Kr2)), (1, (r08_once.K3 n Kr2)), (0, (r08_once.K1 n))]⟩ : Ks r08_once.R) K) k st) kr2 (r08_once.l4 n kr2 k) hK2 ih, r08_once.q3_0 n Kr2 kr2 hK2] <;> kernel_rfl)
noncomputable def r08_once.db2 (n : Nat) (X3 Y4 : XC) : XC :=
  (.aft (.seq (.seq (.reg (.op (.mv 8 (.t 4)) none <| .op (.mv 9 (.t 0)) none <| .op (.len 10 (.t 9) false) none <| .op (.bin 11 .lss (.t 8) (.t 10)) none <| .nil)) <|
  (.cond (.t 11)
  .skip
  (.pre [.keep []] (.exit 0)))) <|
  (.seq (.aft (.block 1 (.seq (.reg (.op (.mv 14 (.t 4)) none <| .op (.bin 15 .add (.t 14) (.c ⟨.int .i64, ((1 : Int) : Int)⟩)) none <| .op (.mv 5 (.t 15)) none <| .nil)) <|
  (.block 2 (.pre [.keep [0, 4, 5]] (.loop n [0, 4, 5] Y4))))) [.keep [0, 4]]) X3)) [.keep [0, 4]])
noncomputable abbrev r08_once.cb2 (n : Nat) : XC := r08_once.db2 n (r08_once.c3 n) (r08_once.cb4 n)
theorem r08_once.q1_0_r (n : Nat) (X : XC)  : r08_once.H1 n X [] = (ev X [] (⟨retK r08_once.rs r08_once.ps r08_once.r, []⟩ : Ks r08_once.R) (retK r08_once.rs r08_once.ps r08_once.r) : Option r08_once.R) := by kernel_rfl
theorem r08_once.q1_0 (n : Nat)  : r08_once.K1 n [] = r08_once.j1 n  := (r08_once.q1_0_r n (r08_once.c1 n) ).trans (r08_once.s1 n )
noncomputable def r08_once.l2 (n : Nat) : Nat → (List DRecord) → Int → Option ((List DRecord) × Bool × Unit)
  | 0, _, _ => none
  | k + 1, x0, x4 =>
  bif (decide (x4 < (x0.length : Int))) then (r08_once.l4 n (r08_once.l2 n k) n x0 x4 (IntKind.i64.wrap (x4 + (1 : Int))))
  else (r08_once.j1 n )
theorem r08_once.wb2 (n : Nat) (Kr2 : St → Option r08_once.R) (x0 : List DRecord) (x4 : Int) (K1 : St → Option r08_once.R) (X3 Y4 : XC) : ev (r08_once.db2 n X3 Y4) (keepSt [(0, some ⟨.slB .U false TRecord, x0⟩), (4, some ⟨.int .i64, x4⟩)] [0, 4]) (⟨retK r08_once.rs r08_once.ps r08_once.r, [(0, K1)]⟩ : Ks r08_once.R) Kr2 =
  (bif (decide (x4 < (x0.length : Int))) then (loopEv [0, 4, 5] (fun s K => ev Y4 s (⟨retK r08_once.rs r08_once.ps r08_once.r, [(2, (r08_once.H3 n K1 (r08_once.Kb2 Kr2) X3)), (1, (r08_once.H3 n K1 (r08_once.Kb2 Kr2) X3)), (0, K1)]⟩ : Ks r08_once.R) K) n [(0, some ⟨.slB .U false TRecord, x0⟩), (4, some ⟨.int .i64, x4⟩), (5, some ⟨.int .i64, (IntKind.i64.wrap (x4 + (1 : Int)))⟩)])
  else (K1 []) : Option r08_once.R) := by kernel_rfl
theorem r08_once.l2_ok (n : Nat) (k : Nat) : ∀ (x0 : List DRecord) (x4 : Int), loopEv [0, 4] (fun s K => ev (r08_once.cb2 n) s (⟨retK r08_once.rs r08_once.ps r08_once.r, [(0, (r08_once.K1 n))]⟩ : Ks r08_once.R) K) k [(0, some ⟨.slB .U false TRecord, x0⟩), (4, some ⟨.int .i64, x4⟩)] = r08_once.l2 n k x0 x4 := by
  induction k with
  | zero => intros; rfl
  | succ k ih =>
    intro x0 x4
    exact (r08_once.wb2 n (fun st => loopEv [0, 4] (fun s K => ev (r08_once.cb2 n) s (⟨retK r08_once.rs r08_once.ps r08_once.r, [(0, (r08_once.K1 n))]⟩ : Ks r08_once.R) K) k st) x0 x4 (r08_once.K1 n) (r08_once.c3 n) (r08_once.cb4 n)).trans (by simp -implicitDefEqProofs only [r08_once.l2, r08_once.l4_ok n (fun st => loopEv [0, 4] (fun s K => ev (r08_once.cb2 n) s (⟨retK r08_once.rs r08_once.ps r08_once.r, [(0, (r08_once.K1 n))]⟩ : Ks r08_once.R) K) k st) (r08_once.l2 n k) ih, r08_once.q1_0 n] <;> kernel_rfl)
noncomputable def r08_once.d (n : Nat) (X1 Y2 : XC) : XC :=
  (.seq (.reg (.op (.mv 2 (.c ⟨.nil 0, ()⟩)) none <| .op (.mv 3 (.c ⟨.bool, (false : Bool)⟩)) none <| .nil)) <|
  (.seq (.aft (.seq (.reg (.op (.mv 4 (.c ⟨.int .i64, ((0 : Int) : Int)⟩)) none <| .nil)) <|
  (.block 0 (.pre [.keep [0, 4]] (.loop n [0, 4] Y2)))) [.keep []]) X1))
noncomputable abbrev r08_once.c (n : Nat) : XC := r08_once.d n (r08_once.c1 n) (r08_once.cb2 n)
noncomputable def r08_once.f (n : Nat) (a0 : List DRecord) : Option ((List DRecord) × Bool × Unit) :=
  r08_once.l2 n n a0 (0 : Int)
theorem r08_once.w (n : Nat) (a0 : List DRecord) (X1 Y2 : XC) : evFn (r08_once.d n X1 Y2) r08_once.rs r08_once.ps r08_once.r (a0, ()) =
  (loopEv [0, 4] (fun s K => ev Y2 s (⟨retK r08_once.rs r08_once.ps r08_once.r, [(0, (r08_once.H1 n X1))]⟩ : Ks r08_once.R) K) n [(0, some ⟨.slB .U false TRecord, a0⟩), (4, some ⟨.int .i64, (0 : Int)⟩)] : Option r08_once.R) := by kernel_rfl
theorem r08_once.ok (n : Nat) (a0 : List DRecord) : evFn (r08_once.c n) r08_once.rs r08_once.ps r08_once.r (a0, ()) = r08_once.f n a0 := (r08_once.w n a0 (r08_once.c1 n) (r08_once.cb2 n)).trans (by simp -implicitDefEqProofs only [r08_once.f, r08_once.l2_ok n] <;> kernel_rfl)
noncomputable def r08_once.sp (n : Nat) : FSpec := { f := 36, ps := r08_once.ps, r := r08_once.r, run := fun x => r08_once.f n x.1 }
theorem r08_once.calls (n : Nat) : (r08_once.c n).calls = [r08_pair.sp n, r08_Touches.sp n] := by kernel_rfl
theorem r08_once.fits (n : Nat) : fnB tab hd Try.f36 (r08_once.c n) r08_once.rs (r08_once.sp n).ps (r08_once.sp n).r = true := by kernel_rfl
theorem r08_once.sound (n : Nat) : Sound Try.prog (r08_once.sp n) := by
  refine fnB_sound tabOk eqFacts mixed (fn := Try.f36) (c := r08_once.c n) (rs := r08_once.rs) (by kernel_rfl) ?_ (r08_once.fits n) ?_
  · rw [r08_once.calls]
    intro s hs
    simp only [List.mem_cons, List.not_mem_nil, or_false] at hs
    rcases hs with rfl | rfl
    · exact r08_pair.meets n
    · exact r08_Touches.meets n
  · rintro ⟨a0, ⟨⟩⟩ y h
    exact (r08_once.ok n a0).trans h
theorem r08_once.meets (n : Nat) : Meets Try.prog (r08_once.sp n) := (r08_once.sound n).meets
/-! backwater/backwaterref08.Optimise -/
abbrev r08_Optimise.ps : List (Ty × Bool) := [(.slB .U false TRecord, false)]
abbrev r08_Optimise.r : Ty := .slX .N TRecord
abbrev r08_Optimise.rs : List RV := [.t 2]
abbrev r08_Optimise.R : Type := (rtOf r08_Optimise.ps r08_Optimise.r).den
noncomputable def r08_Optimise.Kb2 (Kr2 : St → Option r08_Optimise.R) : St → Option r08_Optimise.R := fun st => ghK [.keep [3]] st Kr2
noncomputable def r08_Optimise.db2 (n : Nat) : XC :=
  (.aft (.block 3 (.seq (.reg (.op (.bor 24 3) none <| .op (.call (some 25) (r08_once.sp n) [.v (.t 24)]) none <| .op (.take 23 25) none <| .op (.ext 26 23 0) none <| .op (.ext 27 23 1) none <| .op (.take 5 26) none <| .op (.mv 6 (.t 27)) none <| .nil)) <|
  (.seq (.seq (.reg (.op (.mv 28 (.t 6)) none <| .op (.un 29 .not (.t 28)) none <| .nil)) <|
  (.cond (.t 29)
  (.seq (.reg (.op (.take 30 3) none <| .op (.take 2 30) none <| .nil)) <|
  .ret)
  .skip)) <|
  (.pre [.keep [5]] (.reg (.op (.take 31 5) none <| .op (.take 3 31) none <| .nil)))))) [.keep [3]])
noncomputable abbrev r08_Optimise.cb2 (n : Nat) : XC := r08_Optimise.db2 n
noncomputable def r08_Optimise.l2 (n : Nat) : Nat → (List DRecord) → Option (List DRecord)
  | 0, _ => none
  | k + 1, x3 =>
  (r08_once.f n x3).bind fun r1 => bif (!r1.2.1) then (some x3)
  else (r08_Optimise.l2 n k r1.1)
theorem r08_Optimise.wb2 (n : Nat) (Kr2 : St → Option r08_Optimise.R) (x3 : List DRecord) : ev (r08_Optimise.db2 n) (keepSt [(3, some ⟨.slX .N TRecord, x3⟩)] [3]) (⟨retK r08_Optimise.rs r08_Optimise.ps r08_Optimise.r, [(2, (retK r08_Optimise.rs r08_Optimise.ps r08_Optimise.r))]⟩ : Ks r08_Optimise.R) Kr2 =
  ((r08_once.f n x3).bind fun r1 => bif (!r1.2.1) then (some x3)
  else (Kr2 [(3, some ⟨.slX .N TRecord, r1.1⟩)]) : Option r08_Optimise.R) := by kernel_rfl
theorem r08_Optimise.l2_ok (n : Nat) (k : Nat) : ∀ (x3 : List DRecord), loopEv [3] (fun s K => ev (r08_Optimise.cb2 n) s (⟨retK r08_Optimise.rs r08_Optimise.ps r08_Optimise.r, [(2, (retK r08_Optimise.rs r08_Optimise.ps r08_Optimise.r))]⟩ : Ks r08_Optimise.R) K) k [(3, some ⟨.slX .N TRecord, x3⟩)] = r08_Optimise.l2 n k x3 := by
  induction k with
  | zero => intros; rfl
  | succ k ih =>
    intro x3
    exact (r08_Optimise.wb2 n (fun st => loopEv [3] (fun s K => ev (r08_Optimise.cb2 n) s (⟨retK r08_Optimise.rs r08_Optimise.ps r08_Optimise.r, [(2, (retK r08_Optimise.rs r08_Optimise.ps r08_Optimise.r))]⟩ : Ks r08_Optimise.R) K) k st) x3).trans (by simp -implicitDefEqProofs only [r08_Optimise.l2, ih] <;> kernel_rfl)
noncomputable def r08_Optimise.d1 (n : Nat) (Y2 : XC) : XC :=
  (.block 2 (.pre [.keep [3]] (.loop n [3] Y2)))
noncomputable abbrev r08_Optimise.c1 (n : Nat) : XC := r08_Optimise.d1 n (r08_Optimise.cb2 n)
noncomputable def r08_Optimise.j1 (n : Nat) (x3 : List DRecord) : Option (List DRecord) :=
  r08_Optimise.l2 n n x3
theorem r08_Optimise.w1 (n : Nat) (x3 : List DRecord) (Y2 : XC) : ev (r08_Optimise.d1 n Y2) [(3, some ⟨.slX .N TRecord, x3⟩)] (⟨retK r08_Optimise.rs r08_Optimise.ps r08_Optimise.r, []⟩ : Ks r08_Optimise.R) (retK r08_Optimise.rs r08_Optimise.ps r08_Optimise.r) =
  (loopEv [3] (fun s K => ev Y2 s (⟨retK r08_Optimise.rs r08_Optimise.ps r08_Optimise.r, [(2, (retK r08_Optimise.rs r08_Optimise.ps r08_Optimise.r))]⟩ : Ks r08_Optimise.R) K) n [(3, some ⟨.slX .N TRecord, x3⟩)] : Option r08_Optimise.R) := by kernel_rfl
theorem r08_Optimise.s1 (n : Nat) (x3 : List DRecord) : ev (r08_Optimise.c1 n) [(3, some ⟨.slX .N TRecord, x3⟩)] (⟨retK r08_Optimise.rs r08_Optimise.ps r08_Optimise.r, []⟩ : Ks r08_Optimise.R) (retK r08_Optimise.rs r08_Optimise.ps r08_Optimise.r) = r08_Optimise.j1 n x3 := (r08_Optimise.w1 n x3 (r08_Optimise.cb2 n)).trans (by simp -implicitDefEqProofs only [r08_Optimise.j1, r08_Optimise.l2_ok n] <;> kernel_rfl)
noncomputable def r08_Optimise.H1 (n : Nat) (X : XC) : St → Option r08_Optimise.R := fun st => ghK [.keep [3]] st fun st => ev X st (⟨retK r08_Optimise.rs r08_Optimise.ps r08_Optimise.r, []⟩ : Ks r08_Optimise.R) (retK r08_Optimise.rs r08_Optimise.ps r08_Optimise.r)
noncomputable abbrev r08_Optimise.K1 (n : Nat) : St → Option r08_Optimise.R := r08_Optimise.H1 n (r08_Optimise.c1 n)
noncomputable def r08_Optimise.Kb3 (Kr3 : St → Option r08_Optimise.R) : St → Option r08_Optimise.R := fun st => ghK [.keep [0, 3, 4]] st Kr3
noncomputable def r08_Optimise.d4 (n : Nat) : XC :=
  (.aft (.reg (.op (.mv 11 (.t 4)) none <| .op (.bin 12 .add (.t 11) (.c ⟨.int .i64, ((1 : Int) : Int)⟩)) none <| .op (.mv 4 (.t 12)) none <| .nil)) [.keep [0, 3, 4]])
noncomputable abbrev r08_Optimise.c4 (n : Nat) : XC := r08_Optimise.d4 n
theorem r08_Optimise.qb3_0 (Kr3 : St → Option r08_Optimise.R) (kr3 : (List DRecord) → (List DRecord) → Int → Option (List DRecord)) (hK3 : ∀ (x0 : List DRecord) (x3 : List DRecord) (x4 : Int), Kr3 [(0, some ⟨.slB .U false TRecord, x0⟩), (3, some ⟨.slX .N TRecord, x3⟩), (4, some ⟨.int .i64, x4⟩)] = kr3 x0 x3 x4) (x0 : List DRecord) (x3 : List DRecord) (x4 : Int) : r08_Optimise.Kb3 Kr3 [(0, some ⟨.slB .U false TRecord, x0⟩), (3, some ⟨.slX .N TRecord, x3⟩), (4, some ⟨.int .i64, x4⟩)] = kr3 x0 x3 x4 := (by kernel_rfl : _ = Kr3 [(0, some ⟨.slB .U false TRecord, x0⟩), (3, some ⟨.slX .N TRecord, x3⟩), (4, some ⟨.int .i64, x4⟩)]).trans (hK3 x0 x3 x4)
noncomputable def r08_Optimise.j4 (n : Nat) (kr3 : (List DRecord) → (List DRecord) → Int → Option (List DRecord)) (x0 : List DRecord) (x3 : List DRecord) (x4 : Int) : Option (List DRecord) :=
  kr3 x0 x3 (IntKind.i64.wrap (x4 + (1 : Int)))
theorem r08_Optimise.w4 (n : Nat) (Kr3 : St → Option r08_Optimise.R) (x0 : List DRecord) (x3 : List DRecord) (x4 : Int) (K1 : St → Option r08_Optimise.R) (Kb3 : St → Option r08_Optimise.R) : ev (r08_Optimise.d4 n) [(0, some ⟨.slB .U false TRecord, x0⟩), (3, some ⟨.slX .N TRecord, x3⟩), (4, some ⟨.int .i64, x4⟩)] (⟨retK r08_Optimise.rs r08_Optimise.ps r08_Optimise.r, [(0, K1)]⟩ : Ks r08_Optimise.R) Kb3 =
  (Kb3 [(0, some ⟨.slB .U false TRecord, x0⟩), (3, some ⟨.slX .N TRecord, x3⟩), (4, some ⟨.int .i64, (IntKind.i64.wrap (x4 + (1 : Int)))⟩)] : Option r08_Optimise.R) := by kernel_rfl
theorem r08_Optimise.s4 (n : Nat) (Kr3 : St → Option r08_Optimise.R) (kr3 : (List DRecord) → (List DRecord) → Int → Option (List DRecord)) (hK3 : ∀ (x0 : List DRecord) (x3 : List DRecord) (x4 : Int), Kr3 [(0, some ⟨.slB .U false TRecord, x0⟩), (3, some ⟨.slX .N TRecord, x3⟩), (4, some ⟨.int .i64, x4⟩)] = kr3 x0 x3 x4) (x0 : List DRecord) (x3 : List DRecord) (x4 : Int) : ev (r08_Optimise.c4 n) [(0, some ⟨.slB .U false TRecord, x0⟩), (3, some ⟨.slX .N TRecord, x3⟩), (4, some ⟨.int .i64, x4⟩)] (⟨retK r08_Optimise.rs r08_Optimise.ps r08_Optimise.r, [(0, (r08_Optimise.K1 n))]⟩ : Ks r08_Optimise.R) (r08_Optimise.Kb3 Kr3) = r08_Optimise.j4 n kr3 x0 x3 x4 := (r08_Optimise.w4 n Kr3 x0 x3 x4 (r08_Optimise.K1 n) (r08_Optimise.Kb3 Kr3)).trans (by simp -implicitDefEqProofs only [r08_Optimise.j4, r08_Optimise.qb3_0 Kr3 kr3 hK3] <;> kernel_rfl)
noncomputable def r08_Optimise.H4 (n : Nat) (K1 : St → Option r08_Optimise.R) (Kb3 : St → Option r08_Optimise.R) (X : XC) : St → Option r08_Optimise.R := fun st => ghK [.keep [0, 3, 4]] st fun st => ev X st (⟨retK r08_Optimise.rs r08_Optimise.ps r08_Optimise.r, [(0, K1)]⟩ : Ks r08_Optimise.R) Kb3
noncomputable abbrev r08_Optimise.K4 (n : Nat) (Kr3 : St → Option r08_Optimise.R) : St → Option r08_Optimise.R := r08_Optimise.H4 n (r08_Optimise.K1 n) (r08_Optimise.Kb3 Kr3) (r08_Optimise.c4 n)
noncomputable def r08_Optimise.db3 (n : Nat) (X4 : XC) : XC :=
  (.aft (.seq (.seq (.reg (.op (.mv 7 (.t 4)) none <| .op (.mv 8 (.t 0)) none <| .op (.len 9 (.t 8) false) none <| .op (.bin 10 .lss (.t 7) (.t 9)) none <| .nil)) <|
  (.cond (.t 10)
  .skip
  (.pre [.keep [3]] (.exit 0)))) <|
  (.seq (.aft (.block 1 (.seq (.reg (.op (.mv 13 (.t 0)) none <| .op (.mv 14 (.t 4)) none <| .op (.call (some 15) (r08_needed.sp n) [.v (.t 13), .v (.t 14)]) none <| .nil)) <|
  (.cond (.t 15)
  (.reg (.op (.take 16 3) none <| .op (.mv 17 (.t 0)) none <| .op (.mv 18 (.t 4)) none <| .op (.idxA 19 (.t 17) (.t 18) 9 0) none <| .op (.ld 20 19 9 true) none <| .op (.bsl 21 TRecord [(.t 20)]) none <| .op (.app 22 16 (.t 21) 88 9) none <| .op (.take 3 22) none <| .nil))
  .skip))) [.keep [0, 3, 4]]) X4)) [.keep [0, 3, 4]])
noncomputable abbrev r08_Optimise.cb3 (n : Nat) : XC := r08_Optimise.db3 n (r08_Optimise.c4 n)
theorem r08_Optimise.q1_0_r (n : Nat) (X : XC) (x3 : List DRecord) : r08_Optimise.H1 n X [(3, some ⟨.slX .N TRecord, x3⟩)] = (ev X [(3, some ⟨.slX .N TRecord, x3⟩)] (⟨retK r08_Optimise.rs r08_Optimise.ps r08_Optimise.r, []⟩ : Ks r08_Optimise.R) (retK r08_Optimise.rs r08_Optimise.ps r08_Optimise.r) : Option r08_Optimise.R) := by kernel_rfl
theorem r08_Optimise.q1_0 (n : Nat) (x3 : List DRecord) : r08_Optimise.K1 n [(3, some ⟨.slX .N TRecord, x3⟩)] = r08_Optimise.j1 n x3 := (r08_Optimise.q1_0_r n (r08_Optimise.c1 n) x3).trans (r08_Optimise.s1 n x3)
noncomputable def r08_Optimise.l3 (n : Nat) : Nat → (List DRecord) → (List DRecord) → Int → Option (List DRecord)
  | 0, _, _, _ => none
  | k + 1, x0, x3, x4 =>
  bif (decide (x4 < (x0.length : Int))) then ((r08_needed.f n x0 x4).bind fun r1 => bif r1 then (idxK x0 x4 fun e2 => appK x3.length ([e2] : List DRecord).length 88 (r08_Optimise.j4 n (r08_Optimise.l3 n k) x0 (x3 ++ ([e2] : List DRecord)) x4))
  else (r08_Optimise.j4 n (r08_Optimise.l3 n k) x0 x3 x4))
  else (r08_Optimise.j1 n x3)
theorem r08_Optimise.wb3 (n : Nat) (Kr3 : St → Option r08_Optimise.R) (x0 : List DRecord) (x3 : List DRecord) (x4 : Int) (K1 : St → Option r08_Optimise.R) (X4 : XC) : ev (r08_Optimise.db3 n X4) (keepSt [(0, some ⟨.slB .U false TRecord, x0⟩), (3, some ⟨.slX .N TRecord, x3⟩), (4, some ⟨.int .i64, x4⟩)] [0, 3, 4]) (⟨retK r08_Optimise.rs r08_Optimise.ps r08_Optimise.r, [(0, K1)]⟩ : Ks r08_Optimise.R) Kr3 =
  (bif (decide (x4 < (x0.length : Int))) then ((r08_needed.f n x0 x4).bind fun r1 => bif r1 then (idxK x0 x4 fun e2 => appK x3.length ([e2] : List DRecord).length 88 (ev X4 [(0, some ⟨.slB .U false TRecord, x0⟩), (3, some ⟨.slX .N TRecord, ((x3 ++ ([e2] : List DRecord)) : List DRecord)⟩), (4, some ⟨.int .i64, x4⟩)] (⟨retK r08_Optimise.rs r08_Optimise.ps r08_Optimise.r, [(0, K1)]⟩ : Ks r08_Optimise.R) (r08_Optimise.Kb3 Kr3)))
  else (ev X4 [(0, some ⟨.slB .U false TRecord, x0⟩), (3, some ⟨.slX .N TRecord, x3⟩), (4, some ⟨.int .i64, x4⟩)] (⟨retK r08_Optimise.rs r08_Optimise.ps r08_Optimise.r, [(0, K1)]⟩ : Ks r08_Optimise.R) (r08_Optimise.Kb3 Kr3)))
  else (K1 [(3, some ⟨.slX .N TRecord, x3⟩)]) : Option r08_Optimise.R) := by kernel_rfl
theorem r08_Optimise.l3_ok (n : Nat) (k : Nat) : ∀ (x0 : List DRecord) (x3 : List DRecord) (x4 : Int), loopEv [0, 3, 4] (fun s K => ev (r08_Optimise.cb3 n) s (⟨retK r08_Optimise.rs r08_Optimise.ps r08_Optimise.r, [(0, (r08_Optimise.K1 n))]⟩ : Ks r08_Optimise.R) K) k [(0, some ⟨.slB .U false TRecord, x0⟩), (3, some ⟨.slX .N TRecord, x3⟩), (4, some ⟨.int .i64, x4⟩)] = r08_Optimise.l3 n k x0 x3 x4 := by
  induction k with
  | zero => intros; rfl
  | succ k ih =>
    intro x0 x3 x4
    exact (r08_Optimise.wb3 n (fun st => loopEv [0, 3, 4] (fun s K => ev (r08_Optimise.cb3 n) s (⟨retK r08_Optimise.rs r08_Optimise.ps r08_Optimise.r, [(0, (r08_Optimise.K1 n))]⟩ : Ks r08_Optimise.R) K) k st) x0 x3 x4 (r08_Optimise.K1 n) (r08_Optimise.c4 n)).trans (by simp -implicitDefEqProofs only [r08_Optimise.l3, r08_Optimise.s4 n (fun st => loopEv [0, 3, 4] (fun s K => ev (r08_Optimise.cb3 n) s (⟨retK r08_Optimise.rs r08_Optimise.ps r08_Optimise.r, [(0, (r08_Optimise.K1 n))]⟩ : Ks r08_Optimise.R) K) k st) (r08_Optimise.l3 n k) ih, r08_Optimise.q1_0 n] <;> kernel_rfl)
noncomputable def r08_Optimise.d (n : Nat) (X1 Y3 : XC) : XC :=
  (.seq (.reg (.op (.mv 2 (.c ⟨.nil 0, ()⟩)) none <| .nil)) <|
  (.seq (.reg (.op (.mv 3 (.c ⟨.nil 0, ()⟩)) none <| .nil)) <|
  (.seq (.aft (.seq (.reg (.op (.mv 4 (.c ⟨.int .i64, ((0 : Int) : Int)⟩)) none <| .nil)) <|
  (.block 0 (.pre [.coe 3 (.slX .N TRecord), .keep [0, 3, 4]] (.loop n [0, 3, 4] Y3)))) [.keep [3]]) X1)))
noncomputable abbrev r08_Optimise.c (n : Nat) : XC := r08_Optimise.d n (r08_Optimise.c1 n) (r08_Optimise.cb3 n)
noncomputable def r08_Optimise.f (n : Nat) (a0 : List DRecord) : Option (List DRecord) :=
  r08_Optimise.l3 n n a0 ([] : List DRecord) (0 : Int)
theorem r08_Optimise.w (n : Nat) (a0 : List DRecord) (X1 Y3 : XC) : evFn (r08_Optimise.d n X1 Y3) r08_Optimise.rs r08_Optimise.ps r08_Optimise.r (a0, ()) =
  (loopEv [0, 3, 4] (fun s K => ev Y3 s (⟨retK r08_Optimise.rs r08_Optimise.ps r08_Optimise.r, [(0, (r08_Optimise.H1 n X1))]⟩ : Ks r08_Optimise.R) K) n [(0, some ⟨.slB .U false TRecord, a0⟩), (3, some ⟨.slX .N TRecord, (([] : List DRecord) : List DRecord)⟩), (4, some ⟨.int .i64, (0 : Int)⟩)] : Option r08_Optimise.R) := by kernel_rfl
theorem r08_Optimise.ok (n : Nat) (a0 : List DRecord) : evFn (r08_Optimise.c n) r08_Optimise.rs r08_Optimise.ps r08_Optimise.r (a0, ()) = r08_Optimise.f n a0 := (r08_Optimise.w n a0 (r08_Optimise.c1 n) (r08_Optimise.cb3 n)).trans (by simp -implicitDefEqProofs only [r08_Optimise.f, r08_Optimise.l3_ok n] <;> kernel_rfl)
noncomputable def r08_Optimise.sp (n : Nat) : FSpec := { f := 14, ps := r08_Optimise.ps, r := r08_Optimise.r, run := fun x => r08_Optimise.f n x.1 }
theorem r08_Optimise.calls (n : Nat) : (r08_Optimise.c n).calls = [r08_needed.sp n, r08_once.sp n] := by kernel_rfl
theorem r08_Optimise.fits (n : Nat) : fnB tab hd Try.f14 (r08_Optimise.c n) r08_Optimise.rs (r08_Optimise.sp n).ps (r08_Optimise.sp n).r = true := by kernel_rfl
theorem r08_Optimise.sound (n : Nat) : Sound Try.prog (r08_Optimise.sp n) := by
  refine fnB_sound tabOk eqFacts mixed (fn := Try.f14) (c := r08_Optimise.c n) (rs := r08_Optimise.rs) (by kernel_rfl) ?_ (r08_Optimise.fits n) ?_
  · rw [r08_Optimise.calls]
    intro s hs
    simp only [List.mem_cons, List.not_mem_nil, or_false] at hs
    rcases hs with rfl | rfl
    · exact r08_needed.meets n
    · exact r08_once.meets n
  · rintro ⟨a0, ⟨⟩⟩ y h
    exact (r08_Optimise.ok n a0).trans h
theorem r08_Optimise.meets (n : Nat) : Meets Try.prog (r08_Optimise.sp n) := (r08_Optimise.sound n).meets
/-! backwater/backwaterref08.Same -/
abbrev r08_Same.ps : List (Ty × Bool) := [(.slB .U false TRecord, false), (.slB .U false TRecord, false)]
abbrev r08_Same.r : Ty := .bool
abbrev r08_Same.rs : List RV := [.t 4]
abbrev r08_Same.R : Type := (rtOf r08_Same.ps r08_Same.r).den
noncomputable def r08_Same.d1 (n : Nat) : XC :=
  (.seq (.reg (.op (.mv 4 (.c ⟨.bool, (true : Bool)⟩)) none <| .nil)) <|
  .ret)
noncomputable abbrev r08_Same.c1 (n : Nat) : XC := r08_Same.d1 n
noncomputable def r08_Same.j1 (n : Nat)  : Option Bool :=
  some true
theorem r08_Same.s1 (n : Nat)  : ev (r08_Same.c1 n) [] (⟨retK r08_Same.rs r08_Same.ps r08_Same.r, []⟩ : Ks r08_Same.R) (retK r08_Same.rs r08_Same.ps r08_Same.r) = r08_Same.j1 n  := by kernel_rfl
noncomputable def r08_Same.H1 (n : Nat) (X : XC) : St → Option r08_Same.R := fun st => ghK [.keep []] st fun st => ev X st (⟨retK r08_Same.rs r08_Same.ps r08_Same.r, []⟩ : Ks r08_Same.R) (retK r08_Same.rs r08_Same.ps r08_Same.r)
noncomputable abbrev r08_Same.K1 (n : Nat) : St → Option r08_Same.R := r08_Same.H1 n (r08_Same.c1 n)
noncomputable def r08_Same.Kb2 (Kr2 : St → Option r08_Same.R) : St → Option r08_Same.R := fun st => ghK [.keep [0, 1, 5]] st Kr2
noncomputable def r08_Same.d3 (n : Nat) : XC :=
  (.aft (.reg (.op (.mv 15 (.t 5)) none <| .op (.bin 16 .add (.t 15) (.c ⟨.int .i64, ((1 : Int) : Int)⟩)) none <| .op (.mv 5 (.t 16)) none <| .nil)) [.keep [0, 1, 5]])
noncomputable abbrev r08_Same.c3 (n : Nat) : XC := r08_Same.d3 n
theorem r08_Same.qb2_0 (Kr2 : St → Option r08_Same.R) (kr2 : (List DRecord) → (List DRecord) → Int → Option Bool) (hK2 : ∀ (x0 : List DRecord) (x1 : List DRecord) (x5 : Int), Kr2 [(0, some ⟨.slB .U false TRecord, x0⟩), (1, some ⟨.slB .U false TRecord, x1⟩), (5, some ⟨.int .i64, x5⟩)] = kr2 x0 x1 x5) (x0 : List DRecord) (x1 : List DRecord) (x5 : Int) : r08_Same.Kb2 Kr2 [(0, some ⟨.slB .U false TRecord, x0⟩), (1, some ⟨.slB .U false TRecord, x1⟩), (5, some ⟨.int .i64, x5⟩)] = kr2 x0 x1 x5 := (by kernel_rfl : _ = Kr2 [(0, some ⟨.slB .U false TRecord, x0⟩), (1, some ⟨.slB .U false TRecord, x1⟩), (5, some ⟨.int .i64, x5⟩)]).trans (hK2 x0 x1 x5)
noncomputable def r08_Same.j3 (n : Nat) (kr2 : (List DRecord) → (List DRecord) → Int → Option Bool) (x0 : List DRecord) (x1 : List DRecord) (x5 : Int) : Option Bool :=
  kr2 x0 x1 (IntKind.i64.wrap (x5 + (1 : Int)))
theorem r08_Same.w3 (n : Nat) (Kr2 : St → Option r08_Same.R) (x0 : List DRecord) (x1 : List DRecord) (x5 : Int) (K1 : St → Option r08_Same.R) (Kb2 : St → Option r08_Same.R) : ev (r08_Same.d3 n) [(0, some ⟨.slB .U false TRecord, x0⟩), (1, some ⟨.slB .U false TRecord, x1⟩), (5, some ⟨.int .i64, x5⟩)] (⟨retK r08_Same.rs r08_Same.ps r08_Same.r, [(0, K1)]⟩ : Ks r08_Same.R) Kb2 =
  (Kb2 [(0, some ⟨.slB .U false TRecord, x0⟩), (1, some ⟨.slB .U false TRecord, x1⟩), (5, some ⟨.int .i64, (IntKind.i64.wrap (x5 + (1 : Int)))⟩)] : Option r08_Same.R) := by kernel_rfl
theorem r08_Same.s3 (n : Nat) (Kr2 : St → Option r08_Same.R) (kr2 : (List DRecord) → (List DRecord) → Int → Option Bool) (hK2 : ∀ (x0 : List DRecord) (x1 : List DRecord) (x5 : Int), Kr2 [(0, some ⟨.slB .U false TRecord, x0⟩), (1, some ⟨.slB .U false TRecord, x1⟩), (5, some ⟨.int .i64, x5⟩)] = kr2 x0 x1 x5) (x0 : List DRecord) (x1 : List DRecord) (x5 : Int) : ev (r08_Same.c3 n) [(0, some ⟨.slB .U false TRecord, x0⟩), (1, some ⟨.slB .U false TRecord, x1⟩), (5, some ⟨.int .i64, x5⟩)] (⟨retK r08_Same.rs r08_Same.ps r08_Same.r, [(0, (r08_Same.K1 n))]⟩ : Ks r08_Same.R) (r08_Same.Kb2 Kr2) = r08_Same.j3 n kr2 x0 x1 x5 := (r08_Same.w3 n Kr2 x0 x1 x5 (r08_Same.K1 n) (r08_Same.Kb2 Kr2)).trans (by simp -implicitDefEqProofs only [r08_Same.j3, r08_Same.qb2_0 Kr2 kr2 hK2] <;> kernel_rfl)
noncomputable def r08_Same.H3 (n : Nat) (K1 : St → Option r08_Same.R) (Kb2 : St → Option r08_Same.R) (X : XC) : St → Option r08_Same.R := fun st => ghK [.keep [0, 1, 5]] st fun st => ev X st (⟨retK r08_Same.rs r08_Same.ps r08_Same.r, [(0, K1)]⟩ : Ks r08_Same.R) Kb2
noncomputable abbrev r08_Same.K3 (n : Nat) (Kr2 : St → Option r08_Same.R) : St → Option r08_Same.R := r08_Same.H3 n (r08_Same.K1 n) (r08_Same.Kb2 Kr2) (r08_Same.c3 n)
noncomputable def r08_Same.db2 (n : Nat) (X3 : XC) : XC :=
  (.aft (.seq (.seq (.reg (.op (.mv 11 (.t 5)) none <| .op (.mv 12 (.t 0)) none <| .op (.len 13 (.t 12) false) none <| .op (.bin 14 .lss (.t 11) (.t 13)) none <| .nil)) <|
  (.cond (.t 14)
  .skip
  (.pre [.keep []] (.exit 0)))) <|
  (.seq (.aft (.block 1 (.seq (.regD (.op (.mv 17 (.t 0)) (some ([0, 17], [17])) <| .op (.mv 18 (.t 5)) (some ([5, 18], [18])) <| .op (.idxA 19 (.t 17) (.t 18) 9 0) (some ([17, 18, 19], [19])) <| .op (.ld 20 19 9 true) (some ([19, 20], [20])) <| .op (.mv 21 (.t 1)) (some ([1, 21], [21])) <| .op (.mv 22 (.t 5)) (some ([5, 22], [22])) <| .op (.idxA 23 (.t 21) (.t 22) 9 0) (some ([21, 22, 23], [23])) <| .op (.ld 24 23 9 true) (some ([23, 24], [24])) <| .op (.eqs 25 true (.t 20) (.t 24) TRecord) (some ([20, 24, 25], [25])) <| .nil)) <|
  (.cond (.t 25)
  (.seq (.pre [.keep []] (.reg (.op (.mv 4 (.c ⟨.bool, (false : Bool)⟩)) none <| .nil))) <|
  .ret)
  .skip))) [.keep [0, 1, 5]]) X3)) [.keep [0, 1, 5]])
noncomputable abbrev r08_Same.cb2 (n : Nat) : XC := r08_Same.db2 n (r08_Same.c3 n)
theorem r08_Same.q1_0_r (n : Nat) (X : XC)  : r08_Same.H1 n X [] = (ev X [] (⟨retK r08_Same.rs r08_Same.ps r08_Same.r, []⟩ : Ks r08_Same.R) (retK r08_Same.rs r08_Same.ps r08_Same.r) : Option r08_Same.R) := by kernel_rfl
theorem r08_Same.q1_0 (n : Nat)  : r08_Same.K1 n [] = r08_Same.j1 n  := (r08_Same.q1_0_r n (r08_Same.c1 n) ).trans (r08_Same.s1 n )
noncomputable def r08_Same.l2 (n : Nat) : Nat → (List DRecord) → (List DRecord) → Int → Option Bool
  | 0, _, _, _ => none
  | k + 1, x0, x1, x5 =>
  bif (decide (x5 < (x0.length : Int))) then (idxK x0 x5 fun e1 => idxK x1 x5 fun e2 => bif (!((eqI e1.1.1 e2.1.1 && (eqI e1.1.2.1 e2.1.2.1 && (eqI e1.1.2.2.1 e2.1.2.2.1 && (eqS e1.1.2.2.2.1 e2.1.2.2.2.1 && (eqI e1.1.2.2.2.2.1 e2.1.2.2.2.2.1 && (eqS e1.1.2.2.2.2.2.1 e2.1.2.2.2.2.2.1 && (eqI e1.1.2.2.2.2.2.2.1 e2.1.2.2.2.2.2.2.1 && (eqS e1.1.2.2.2.2.2.2.2.1 e2.1.2.2.2.2.2.2.2.1 && true)))))))) && (eqI e1.2.1 e2.2.1 && true))) then (some false)
  else (r08_Same.j3 n (r08_Same.l2 n k) x0 x1 x5))
  else (r08_Same.j1 n )
theorem r08_Same.wb2 (n : Nat) (Kr2 : St → Option r08_Same.R) (x0 : List DRecord) (x1 : List DRecord) (x5 : Int) (K1 : St → Option r08_Same.R) (X3 : XC) : ev (r08_Same.db2 n X3) (keepSt [(0, some ⟨.slB .U false TRecord, x0⟩), (1, some ⟨.slB .U false TRecord, x1⟩), (5, some ⟨.int .i64, x5⟩)] [0, 1, 5]) (⟨retK r08_Same.rs r08_Same.ps r08_Same.r, [(0, K1)]⟩ : Ks r08_Same.R) Kr2 =
  (bif (decide (x5 < (x0.length : Int))) then (idxK x0 x5 fun e1 => idxK x1 x5 fun e2 => bif (!((eqI e1.1.1 e2.1.1 && (eqI e1.1.2.1 e2.1.2.1 && (eqI e1.1.2.2.1 e2.1.2.2.1 && (eqS e1.1.2.2.2.1 e2.1.2.2.2.1 && (eqI e1.1.2.2.2.2.1 e2.1.2.2.2.2.1 && (eqS e1.1.2.2.2.2.2.1 e2.1.2.2.2.2.2.1 && (eqI e1.1.2.2.2.2.2.2.1 e2.1.2.2.2.2.2.2.1 && (eqS e1.1.2.2.2.2.2.2.2.1 e2.1.2.2.2.2.2.2.2.1 && true)))))))) && (eqI e1.2.1 e2.2.1 && true))) then (some false)
  else (ev X3 [(0, some ⟨.slB .U false TRecord, x0⟩), (1, some ⟨.slB .U false TRecord, x1⟩), (5, some ⟨.int .i64, x5⟩)] (⟨retK r08_Same.rs r08_Same.ps r08_Same.r, [(0, K1)]⟩ : Ks r08_Same.R) (r08_Same.Kb2 Kr2)))
  else (K1 []) : Option r08_Same.R) := by kernel_rfl
theorem r08_Same.l2_ok (n : Nat) (k : Nat) : ∀ (x0 : List DRecord) (x1 : List DRecord) (x5 : Int), loopEv [0, 1, 5] (fun s K => ev (r08_Same.cb2 n) s (⟨retK r08_Same.rs r08_Same.ps r08_Same.r, [(0, (r08_Same.K1 n))]⟩ : Ks r08_Same.R) K) k [(0, some ⟨.slB .U false TRecord, x0⟩), (1, some ⟨.slB .U false TRecord, x1⟩), (5, some ⟨.int .i64, x5⟩)] = r08_Same.l2 n k x0 x1 x5 := by
  induction k with
  | zero => intros; rfl
  | succ k ih =>
    intro x0 x1 x5
    exact (r08_Same.wb2 n (fun st => loopEv [0, 1, 5] (fun s K => ev (r08_Same.cb2 n) s (⟨retK r08_Same.rs r08_Same.ps r08_Same.r, [(0, (r08_Same.K1 n))]⟩ : Ks r08_Same.R) K) k st) x0 x1 x5 (r08_Same.K1 n) (r08_Same.c3 n)).trans (by simp -implicitDefEqProofs only [r08_Same.l2, r08_Same.s3 n (fun st => loopEv [0, 1, 5] (fun s K => ev (r08_Same.cb2 n) s (⟨retK r08_Same.rs r08_Same.ps r08_Same.r, [(0, (r08_Same.K1 n))]⟩ : Ks r08_Same.R) K) k st) (r08_Same.l2 n k) ih, r08_Same.q1_0 n] <;> kernel_rfl)
noncomputable def r08_Same.d (n : Nat) (X1 Y2 : XC) : XC :=
  (.seq (.reg (.op (.mv 4 (.c ⟨.bool, (false : Bool)⟩)) none <| .nil)) <|
  (.seq (.seq (.reg (.op (.mv 6 (.t 0)) none <| .op (.len 7 (.t 6) false) none <| .op (.mv 8 (.t 1)) none <| .op (.len 9 (.t 8) false) none <| .op (.bin 10 .neq (.t 7) (.t 9)) none <| .nil)) <|
  (.cond (.t 10)
  (.seq (.reg (.op (.mv 4 (.c ⟨.bool, (false : Bool)⟩)) none <| .nil)) <|
  .ret)
  .skip)) <|
  (.seq (.aft (.seq (.reg (.op (.mv 5 (.c ⟨.int .i64, ((0 : Int) : Int)⟩)) none <| .nil)) <|
  (.block 0 (.pre [.keep [0, 1, 5]] (.loop n [0, 1, 5] Y2)))) [.keep []]) X1)))
noncomputable abbrev r08_Same.c (n : Nat) : XC := r08_Same.d n (r08_Same.c1 n) (r08_Same.cb2 n)
noncomputable def r08_Same.f (n : Nat) (a0 : List DRecord) (a1 : List DRecord) : Option Bool :=
  bif (!decide ((a0.length : Int) = (a1.length : Int))) then (some false)
  else (r08_Same.l2 n n a0 a1 (0 : Int))
theorem r08_Same.w (n : Nat) (a0 : List DRecord) (a1 : List DRecord) (X1 Y2 : XC) : evFn (r08_Same.d n X1 Y2) r08_Same.rs r08_Same.ps r08_Same.r (a0, a1, ()) =
  (bif (!decide ((a0.length : Int) = (a1.length : Int))) then (some false)
  else (loopEv [0, 1, 5] (fun s K => ev Y2 s (⟨retK r08_Same.rs r08_Same.ps r08_Same.r, [(0, (r08_Same.H1 n X1))]⟩ : Ks r08_Same.R) K) n [(0, some ⟨.slB .U false TRecord, a0⟩), (1, some ⟨.slB .U false TRecord, a1⟩), (5, some ⟨.int .i64, (0 : Int)⟩)]) : Option r08_Same.R) := by kernel_rfl
theorem r08_Same.ok (n : Nat) (a0 : List DRecord) (a1 : List DRecord) : evFn (r08_Same.c n) r08_Same.rs r08_Same.ps r08_Same.r (a0, a1, ()) = r08_Same.f n a0 a1 := (r08_Same.w n a0 a1 (r08_Same.c1 n) (r08_Same.cb2 n)).trans (by simp -implicitDefEqProofs only [r08_Same.f, r08_Same.l2_ok n] <;> kernel_rfl)
noncomputable def r08_Same.sp (n : Nat) : FSpec := { f := 23, ps := r08_Same.ps, r := r08_Same.r, run := fun x => r08_Same.f n x.1 x.2.1 }
theorem r08_Same.calls (n : Nat) : (r08_Same.c n).calls = [] := by kernel_rfl
theorem r08_Same.fits (n : Nat) : fnB tab hd Try.f23 (r08_Same.c n) r08_Same.rs (r08_Same.sp n).ps (r08_Same.sp n).r = true := by kernel_rfl
theorem r08_Same.sound (n : Nat) : Sound Try.prog (r08_Same.sp n) := by
  refine fnB_sound tabOk eqFacts mixed (fn := Try.f23) (c := r08_Same.c n) (rs := r08_Same.rs) (by kernel_rfl) ?_ (r08_Same.fits n) ?_
  · rw [r08_Same.calls]
    intro s hs; cases hs
  · rintro ⟨a0, a1, ⟨⟩⟩ y h
    exact (r08_Same.ok n a0 a1).trans h
theorem r08_Same.meets (n : Nat) : Meets Try.prog (r08_Same.sp n) := (r08_Same.sound n).meets
/-! backwater/backwaterref08.Clean -/
abbrev r08_Clean.ps : List (Ty × Bool) := [(.slB .U false TRecord, false)]
abbrev r08_Clean.r : Ty := .bool
abbrev r08_Clean.rs : List RV := [.t 2]
abbrev r08_Clean.R : Type := (rtOf r08_Clean.ps r08_Clean.r).den
noncomputable def r08_Clean.d (n : Nat) : XC :=
  (.seq (.reg (.op (.mv 2 (.c ⟨.bool, (false : Bool)⟩)) none <| .nil)) <|
  (.seq (.reg (.op (.mv 3 (.t 0)) none <| .op (.call (some 4) (r08_Optimise.sp n) [.v (.t 3)]) none <| .op (.mv 5 (.t 0)) none <| .op (.call (some 6) (r08_Same.sp n) [.v (.t 4), .v (.t 5)]) none <| .op (.mv 2 (.t 6)) none <| .nil)) <|
  .ret))
noncomputable abbrev r08_Clean.c (n : Nat) : XC := r08_Clean.d n
noncomputable def r08_Clean.f (n : Nat) (a0 : List DRecord) : Option Bool :=
  (r08_Optimise.f n a0).bind fun r1 => (r08_Same.f n r1 a0).bind fun r2 => some r2
theorem r08_Clean.ok (n : Nat) (a0 : List DRecord) : evFn (r08_Clean.c n) r08_Clean.rs r08_Clean.ps r08_Clean.r (a0, ()) = r08_Clean.f n a0 := by kernel_rfl
noncomputable def r08_Clean.sp (n : Nat) : FSpec := { f := 16, ps := r08_Clean.ps, r := r08_Clean.r, run := fun x => r08_Clean.f n x.1 }
theorem r08_Clean.calls (n : Nat) : (r08_Clean.c n).calls = [r08_Optimise.sp n, r08_Same.sp n] := by kernel_rfl
theorem r08_Clean.fits (n : Nat) : fnB tab hd Try.f16 (r08_Clean.c n) r08_Clean.rs (r08_Clean.sp n).ps (r08_Clean.sp n).r = true := by kernel_rfl
theorem r08_Clean.sound (n : Nat) : Sound Try.prog (r08_Clean.sp n) := by
  refine fnB_sound tabOk eqFacts mixed (fn := Try.f16) (c := r08_Clean.c n) (rs := r08_Clean.rs) (by kernel_rfl) ?_ (r08_Clean.fits n) ?_
  · rw [r08_Clean.calls]
    intro s hs
    simp only [List.mem_cons, List.not_mem_nil, or_false] at hs
    rcases hs with rfl | rfl
    · exact r08_Optimise.meets n
    · exact r08_Same.meets n
  · rintro ⟨a0, ⟨⟩⟩ y h
    exact (r08_Clean.ok n a0).trans h
theorem r08_Clean.meets (n : Nat) : Meets Try.prog (r08_Clean.sp n) := (r08_Clean.sound n).meets
/-! backwater/backwaterlaw08.CmlOptimises -/
abbrev law08_CmlOptimises.ps : List (Ty × Bool) := [(.slB .U false TRecord, false)]
abbrev law08_CmlOptimises.r : Ty := .bool
abbrev law08_CmlOptimises.rs : List RV := [.t 2]
abbrev law08_CmlOptimises.R : Type := (rtOf law08_CmlOptimises.ps law08_CmlOptimises.r).den
noncomputable def law08_CmlOptimises.d (n : Nat) : XC :=
  (.seq (.reg (.op (.mv 2 (.c ⟨.bool, (false : Bool)⟩)) none <| .nil)) <|
  (.seq (.reg (.op (.mv 3 (.t 0)) none <| .op (.call (some 4) (law08_few.sp n) [.v (.t 3)]) none <| .op (.mv 0 (.t 4)) none <| .nil)) <|
  (.seq (.reg (.op (.call (some 5) (law08_live.sp n) []) none <| .op (.mv 6 (.t 5)) none <| .grp 6 true (.op (.mv 7 (.t 0)) (some ([0, 6, 7], [7])) <| .op (.call (some 8) (cml_Optimise.sp n) [.v (.t 7)]) (some ([6, 7, 8], [8])) <| .op (.mv 9 (.t 0)) (some ([0, 6, 9], [9])) <| .op (.call (some 10) (r08_Optimise.sp n) [.v (.t 9)]) (some ([6, 9, 10], [10])) <| .op (.call (some 11) (cml_Same.sp n) [.v (.t 8), .v (.t 10)]) (some ([6, 8, 10, 11], [11])) <| .nil) 11 12 [7, 8, 9, 10, 11] <| .op (.mv 13 (.t 12)) none <| .grp 13 true (.op (.mv 14 (.t 0)) (some ([0, 13, 14], [14])) <| .op (.call (some 15) (cml_Clean.sp n) [.v (.t 14)]) (some ([13, 14, 15], [15])) <| .op (.mv 16 (.t 0)) (some ([0, 13, 16], [16])) <| .op (.call (some 17) (r08_Clean.sp n) [.v (.t 16)]) (some ([13, 16, 17], [17])) <| .op (.eqs 18 false (.t 15) (.t 17) .bool) (some ([13, 15, 17, 18], [18])) <| .nil) 18 19 [14, 15, 16, 17, 18] <| .op (.mv 2 (.t 19)) none <| .nil)) <|
  .ret)))
noncomputable abbrev law08_CmlOptimises.c (n : Nat) : XC := law08_CmlOptimises.d n
noncomputable def law08_CmlOptimises.f (n : Nat) (a0 : List DRecord) : Option Bool :=
  (law08_few.f n a0).bind fun r1 => (law08_live.f n).bind fun r2 => (bif r2 then ((cml_Optimise.f n r1).bind fun r4 => (r08_Optimise.f n r1).bind fun r5 => (cml_Same.f n r4 r5).bind fun r6 => some r6) else some false).bind fun g3 =>
  (bif g3 then ((cml_Clean.f n r1).bind fun r8 => (r08_Clean.f n r1).bind fun r9 => some (bbeq r8 r9)) else some false).bind fun g7 =>
  some g7
theorem law08_CmlOptimises.ok (n : Nat) (a0 : List DRecord) : evFn (law08_CmlOptimises.c n) law08_CmlOptimises.rs law08_CmlOptimises.ps law08_CmlOptimises.r (a0, ()) = law08_CmlOptimises.f n a0 := by kernel_rfl
noncomputable def law08_CmlOptimises.sp (n : Nat) : FSpec := { f := 3, ps := law08_CmlOptimises.ps, r := law08_CmlOptimises.r, run := fun x => law08_CmlOptimises.f n x.1 }
theorem law08_CmlOptimises.calls (n : Nat) : (law08_CmlOptimises.c n).calls = [law08_few.sp n, law08_live.sp n, cml_Optimise.sp n, r08_Optimise.sp n, cml_Same.sp n, cml_Clean.sp n, r08_Clean.sp n] := by kernel_rfl
theorem law08_CmlOptimises.fits (n : Nat) : fnB tab hd Try.f3 (law08_CmlOptimises.c n) law08_CmlOptimises.rs (law08_CmlOptimises.sp n).ps (law08_CmlOptimises.sp n).r = true := by kernel_rfl
theorem law08_CmlOptimises.sound (n : Nat) : Sound Try.prog (law08_CmlOptimises.sp n) := by
  refine fnB_sound tabOk eqFacts mixed (fn := Try.f3) (c := law08_CmlOptimises.c n) (rs := law08_CmlOptimises.rs) (by kernel_rfl) ?_ (law08_CmlOptimises.fits n) ?_
  · rw [law08_CmlOptimises.calls]
    intro s hs
    simp only [List.mem_cons, List.not_mem_nil, or_false] at hs
    rcases hs with rfl | rfl | rfl | rfl | rfl | rfl | rfl
    · exact law08_few.meets n
    · exact law08_live.meets n
    · exact cml_Optimise.meets n
    · exact r08_Optimise.meets n
    · exact cml_Same.meets n
    · exact cml_Clean.meets n
    · exact r08_Clean.meets n
  · rintro ⟨a0, ⟨⟩⟩ y h
    exact (law08_CmlOptimises.ok n a0).trans h
theorem law08_CmlOptimises.meets (n : Nat) : Meets Try.prog (law08_CmlOptimises.sp n) := (law08_CmlOptimises.sound n).meets
/-! backwater/backwaterlaw08.CmlTwice -/
abbrev law08_CmlTwice.ps : List (Ty × Bool) := [(.slB .U false TRecord, false)]
abbrev law08_CmlTwice.r : Ty := .bool
abbrev law08_CmlTwice.rs : List RV := [.t 2]
abbrev law08_CmlTwice.R : Type := (rtOf law08_CmlTwice.ps law08_CmlTwice.r).den
noncomputable def law08_CmlTwice.d (n : Nat) : XC :=
  (.seq (.reg (.op (.mv 2 (.c ⟨.bool, (false : Bool)⟩)) none <| .nil)) <|
  (.seq (.reg (.op (.mv 4 (.t 0)) none <| .op (.call (some 5) (law08_few.sp n) [.v (.t 4)]) none <| .op (.mv 0 (.t 5)) none <| .nil)) <|
  (.seq (.reg (.op (.mv 6 (.t 0)) none <| .op (.call (some 7) (cml_Optimise.sp n) [.v (.t 6)]) none <| .op (.take 3 7) none <| .nil)) <|
  (.seq (.reg (.op (.call (some 8) (law08_live.sp n) []) none <| .op (.mv 9 (.t 8)) none <| .grp 9 true (.op (.bor 10 3) (some ([3, 9, 10], [10])) <| .op (.call (some 11) (cml_Optimise.sp n) [.v (.t 10)]) (some ([3, 9, 10, 11], [11])) <| .op (.bor 12 3) (some ([3, 9, 12], [12])) <| .op (.call (some 13) (cml_Same.sp n) [.v (.t 11), .v (.t 12)]) (some ([3, 9, 11, 12, 13], [13])) <| .nil) 13 14 [10, 11, 12, 13] <| .op (.mv 15 (.t 14)) none <| .grp 15 true (.op (.bor 16 3) (some ([3, 15, 16], [16])) <| .op (.call (some 17) (cml_Clean.sp n) [.v (.t 16)]) (some ([3, 15, 16, 17], [17])) <| .nil) 17 18 [16, 17] <| .op (.mv 19 (.t 18)) none <| .grp 19 true (.op (.bor 20 3) (some ([3, 19, 20], [20])) <| .op (.len 21 (.t 20) false) (some ([3, 19, 20, 21], [21])) <| .op (.mv 22 (.t 0)) (some ([0, 19, 22], [22])) <| .op (.len 23 (.t 22) false) (some ([19, 22, 23], [23])) <| .op (.bin 24 .leq (.t 21) (.t 23)) (some ([19, 21, 23, 24], [24])) <| .nil) 24 25 [20, 21, 22, 23, 24] <| .op (.mv 2 (.t 25)) none <| .nil)) <|
  .ret))))
noncomputable abbrev law08_CmlTwice.c (n : Nat) : XC := law08_CmlTwice.d n
noncomputable def law08_CmlTwice.f (n : Nat) (a0 : List DRecord) : Option Bool :=
  (law08_few.f n a0).bind fun r1 => (cml_Optimise.f n r1).bind fun r2 => (law08_live.f n).bind fun r3 => (bif r3 then ((cml_Optimise.f n r2).bind fun r5 => (cml_Same.f n r5 r2).bind fun r6 => some r6) else some false).bind fun g4 =>
  (bif g4 then ((cml_Clean.f n r2).bind fun r8 => some r8) else some false).bind fun g7 =>
  (bif g7 then (some (decide ((r2.length : Int) ≤ (r1.length : Int)))) else some false).bind fun g9 =>
  some g9
theorem law08_CmlTwice.ok (n : Nat) (a0 : List DRecord) : evFn (law08_CmlTwice.c n) law08_CmlTwice.rs law08_CmlTwice.ps law08_CmlTwice.r (a0, ()) = law08_CmlTwice.f n a0 := by kernel_rfl
noncomputable def law08_CmlTwice.sp (n : Nat) : FSpec := { f := 4, ps := law08_CmlTwice.ps, r := law08_CmlTwice.r, run := fun x => law08_CmlTwice.f n x.1 }
theorem law08_CmlTwice.calls (n : Nat) : (law08_CmlTwice.c n).calls = [law08_few.sp n, cml_Optimise.sp n, law08_live.sp n, cml_Optimise.sp n, cml_Same.sp n, cml_Clean.sp n] := by kernel_rfl
theorem law08_CmlTwice.fits (n : Nat) : fnB tab hd Try.f4 (law08_CmlTwice.c n) law08_CmlTwice.rs (law08_CmlTwice.sp n).ps (law08_CmlTwice.sp n).r = true := by kernel_rfl
theorem law08_CmlTwice.sound (n : Nat) : Sound Try.prog (law08_CmlTwice.sp n) := by
  refine fnB_sound tabOk eqFacts mixed (fn := Try.f4) (c := law08_CmlTwice.c n) (rs := law08_CmlTwice.rs) (by kernel_rfl) ?_ (law08_CmlTwice.fits n) ?_
  · rw [law08_CmlTwice.calls]
    intro s hs
    simp only [List.mem_cons, List.not_mem_nil, or_false] at hs
    rcases hs with rfl | rfl | rfl | rfl | rfl | rfl
    · exact law08_few.meets n
    · exact cml_Optimise.meets n
    · exact law08_live.meets n
    · exact cml_Optimise.meets n
    · exact cml_Same.meets n
    · exact cml_Clean.meets n
  · rintro ⟨a0, ⟨⟩⟩ y h
    exact (law08_CmlTwice.ok n a0).trans h
theorem law08_CmlTwice.meets (n : Nat) : Meets Try.prog (law08_CmlTwice.sp n) := (law08_CmlTwice.sound n).meets
/-! backwater/backwaterlaw08.CmlPart -/
abbrev law08_CmlPart.ps : List (Ty × Bool) := [(.slB .U false TRecord, false)]
abbrev law08_CmlPart.r : Ty := .bool
abbrev law08_CmlPart.rs : List RV := [.t 2]
abbrev law08_CmlPart.R : Type := (rtOf law08_CmlPart.ps law08_CmlPart.r).den
noncomputable def law08_CmlPart.d1 (n : Nat) : XC :=
  (.seq (.reg (.op (.call (some 33) (law08_live.sp n) []) none <| .op (.mv 34 (.t 33)) none <| .grp 34 true (.op (.mv 35 (.t 4)) (some ([4, 34, 35], [35])) <| .op (.bor 36 3) (some ([3, 34, 36], [36])) <| .op (.len 37 (.t 36) false) (some ([3, 34, 36, 37], [37])) <| .op (.bin 38 .eql (.t 35) (.t 37)) (some ([34, 35, 37, 38], [38])) <| .nil) 38 39 [35, 36, 37, 38] <| .op (.mv 2 (.t 39)) none <| .nil)) <|
  .ret)
noncomputable abbrev law08_CmlPart.c1 (n : Nat) : XC := law08_CmlPart.d1 n
noncomputable def law08_CmlPart.j1 (n : Nat) (x3 : List DRecord) (x4 : Int) : Option Bool :=
  (law08_live.f n).bind fun r1 => (bif r1 then (some (decide (x4 = (x3.length : Int)))) else some false).bind fun g2 =>
  some g2
theorem law08_CmlPart.s1 (n : Nat) (x3 : List DRecord) (x4 : Int) : ev (law08_CmlPart.c1 n) [(3, some ⟨.slX .U TRecord, x3⟩), (4, some ⟨.int .i64, x4⟩)] (⟨retK law08_CmlPart.rs law08_CmlPart.ps law08_CmlPart.r, []⟩ : Ks law08_CmlPart.R) (retK law08_CmlPart.rs law08_CmlPart.ps law08_CmlPart.r) = law08_CmlPart.j1 n x3 x4 := by kernel_rfl
noncomputable def law08_CmlPart.H1 (n : Nat) (X : XC) : St → Option law08_CmlPart.R := fun st => ghK [.keep [3, 4]] st fun st => ev X st (⟨retK law08_CmlPart.rs law08_CmlPart.ps law08_CmlPart.r, []⟩ : Ks law08_CmlPart.R) (retK law08_CmlPart.rs law08_CmlPart.ps law08_CmlPart.r)
noncomputable abbrev law08_CmlPart.K1 (n : Nat) : St → Option law08_CmlPart.R := law08_CmlPart.H1 n (law08_CmlPart.c1 n)
noncomputable def law08_CmlPart.Kb2 (Kr2 : St → Option law08_CmlPart.R) : St → Option law08_CmlPart.R := fun st => ghK [.keep [0, 3, 4, 5]] st Kr2
noncomputable def law08_CmlPart.d3 (n : Nat) : XC :=
  (.aft (.reg (.op (.mv 20 (.t 5)) none <| .op (.bin 21 .add (.t 20) (.c ⟨.int .i64, ((1 : Int) : Int)⟩)) none <| .op (.mv 5 (.t 21)) none <| .nil)) [.keep [0, 3, 4, 5]])
noncomputable abbrev law08_CmlPart.c3 (n : Nat) : XC := law08_CmlPart.d3 n
theorem law08_CmlPart.qb2_0 (Kr2 : St → Option law08_CmlPart.R) (kr2 : (List DRecord) → (List DRecord) → Int → Int → Option Bool) (hK2 : ∀ (x0 : List DRecord) (x3 : List DRecord) (x4 : Int) (x5 : Int), Kr2 [(0, some ⟨.slB .U false TRecord, x0⟩), (3, some ⟨.slX .U TRecord, x3⟩), (4, some ⟨.int .i64, x4⟩), (5, some ⟨.int .i64, x5⟩)] = kr2 x0 x3 x4 x5) (x0 : List DRecord) (x3 : List DRecord) (x4 : Int) (x5 : Int) : law08_CmlPart.Kb2 Kr2 [(0, some ⟨.slB .U false TRecord, x0⟩), (3, some ⟨.slX .U TRecord, x3⟩), (4, some ⟨.int .i64, x4⟩), (5, some ⟨.int .i64, x5⟩)] = kr2 x0 x3 x4 x5 := (by kernel_rfl : _ = Kr2 [(0, some ⟨.slB .U false TRecord, x0⟩), (3, some ⟨.slX .U TRecord, x3⟩), (4, some ⟨.int .i64, x4⟩), (5, some ⟨.int .i64, x5⟩)]).trans (hK2 x0 x3 x4 x5)
noncomputable def law08_CmlPart.j3 (n : Nat) (kr2 : (List DRecord) → (List DRecord) → Int → Int → Option Bool) (x0 : List DRecord) (x3 : List DRecord) (x4 : Int) (x5 : Int) : Option Bool :=
  kr2 x0 x3 x4 (IntKind.i64.wrap (x5 + (1 : Int)))
theorem law08_CmlPart.w3 (n : Nat) (Kr2 : St → Option law08_CmlPart.R) (x0 : List DRecord) (x3 : List DRecord) (x4 : Int) (x5 : Int) (K1 : St → Option law08_CmlPart.R) (Kb2 : St → Option law08_CmlPart.R) : ev (law08_CmlPart.d3 n) [(0, some ⟨.slB .U false TRecord, x0⟩), (3, some ⟨.slX .U TRecord, x3⟩), (4, some ⟨.int .i64, x4⟩), (5, some ⟨.int .i64, x5⟩)] (⟨retK law08_CmlPart.rs law08_CmlPart.ps law08_CmlPart.r, [(0, K1)]⟩ : Ks law08_CmlPart.R) Kb2 =
  (Kb2 [(0, some ⟨.slB .U false TRecord, x0⟩), (3, some ⟨.slX .U TRecord, x3⟩), (4, some ⟨.int .i64, x4⟩), (5, some ⟨.int .i64, (IntKind.i64.wrap (x5 + (1 : Int)))⟩)] : Option law08_CmlPart.R) := by kernel_rfl
theorem law08_CmlPart.s3 (n : Nat) (Kr2 : St → Option law08_CmlPart.R) (kr2 : (List DRecord) → (List DRecord) → Int → Int → Option Bool) (hK2 : ∀ (x0 : List DRecord) (x3 : List DRecord) (x4 : Int) (x5 : Int), Kr2 [(0, some ⟨.slB .U false TRecord, x0⟩), (3, some ⟨.slX .U TRecord, x3⟩), (4, some ⟨.int .i64, x4⟩), (5, some ⟨.int .i64, x5⟩)] = kr2 x0 x3 x4 x5) (x0 : List DRecord) (x3 : List DRecord) (x4 : Int) (x5 : Int) : ev (law08_CmlPart.c3 n) [(0, some ⟨.slB .U false TRecord, x0⟩), (3, some ⟨.slX .U TRecord, x3⟩), (4, some ⟨.int .i64, x4⟩), (5, some ⟨.int .i64, x5⟩)] (⟨retK law08_CmlPart.rs law08_CmlPart.ps law08_CmlPart.r, [(0, (law08_CmlPart.K1 n))]⟩ : Ks law08_CmlPart.R) (law08_CmlPart.Kb2 Kr2) = law08_CmlPart.j3 n kr2 x0 x3 x4 x5 := (law08_CmlPart.w3 n Kr2 x0 x3 x4 x5 (law08_CmlPart.K1 n) (law08_CmlPart.Kb2 Kr2)).trans (by simp -implicitDefEqProofs only [law08_CmlPart.j3, law08_CmlPart.qb2_0 Kr2 kr2 hK2] <;> kernel_rfl)
noncomputable def law08_CmlPart.H3 (n : Nat) (K1 : St → Option law08_CmlPart.R) (Kb2 : St → Option law08_CmlPart.R) (X : XC) : St → Option law08_CmlPart.R := fun st => ghK [.keep [0, 3, 4, 5]] st fun st => ev X st (⟨retK law08_CmlPart.rs law08_CmlPart.ps law08_CmlPart.r, [(0, K1)]⟩ : Ks law08_CmlPart.R) Kb2
noncomputable abbrev law08_CmlPart.K3 (n : Nat) (Kr2 : St → Option law08_CmlPart.R) : St → Option law08_CmlPart.R := law08_CmlPart.H3 n (law08_CmlPart.K1 n) (law08_CmlPart.Kb2 Kr2) (law08_CmlPart.c3 n)
noncomputable def law08_CmlPart.db2 (n : Nat) (X3 : XC) : XC :=
  (.aft (.seq (.seq (.reg (.op (.mv 10 (.t 5)) none <| .op (.mv 11 (.t 0)) none <| .op (.len 12 (.t 11) false) none <| .op (.bin 13 .lss (.t 10) (.t 12)) none <| .op (.mv 14 (.t 13)) none <| .grp 14 true (.op (.mv 15 (.t 4)) (some ([4, 14, 15], [15])) <| .op (.bor 16 3) (some ([3, 14, 16], [16])) <| .op (.len 17 (.t 16) false) (some ([3, 14, 16, 17], [17])) <| .op (.bin 18 .lss (.t 15) (.t 17)) (some ([14, 15, 17, 18], [18])) <| .nil) 18 19 [15, 16, 17, 18] <| .nil)) <|
  (.cond (.t 19)
  .skip
  (.pre [.keep [3, 4]] (.exit 0)))) <|
  (.seq (.aft (.block 1 (.seq (.regD (.op (.mv 22 (.t 0)) (some ([0, 22], [22])) <| .op (.mv 23 (.t 5)) (some ([5, 23], [23])) <| .op (.idxA 24 (.t 22) (.t 23) 9 0) (some ([22, 23, 24], [24])) <| .op (.ld 25 24 9 true) (some ([24, 25], [25])) <| .op (.bor 26 3) (some ([3, 26], [26])) <| .op (.mv 27 (.t 4)) (some ([4, 27], [27])) <| .op (.idxA 28 (.t 26) (.t 27) 9 0) (some ([3, 26, 27, 28], [28])) <| .op (.ld 29 28 9 true) (some ([3, 28, 29], [29])) <| .op (.eqs 30 false (.t 25) (.t 29) TRecord) (some ([25, 29, 30], [30])) <| .nil)) <|
  (.cond (.t 30)
  (.pre [.keep [0, 3, 4, 5]] (.reg (.op (.mv 31 (.t 4)) none <| .op (.bin 32 .add (.t 31) (.c ⟨.int .i64, ((1 : Int) : Int)⟩)) none <| .op (.mv 4 (.t 32)) none <| .nil)))
  .skip))) [.keep [0, 3, 4, 5]]) X3)) [.keep [0, 3, 4, 5]])
noncomputable abbrev law08_CmlPart.cb2 (n : Nat) : XC := law08_CmlPart.db2 n (law08_CmlPart.c3 n)
theorem law08_CmlPart.q1_0_r (n : Nat) (X : XC) (x3 : List DRecord) (x4 : Int) : law08_CmlPart.H1 n X [(3, some ⟨.slX .U TRecord, x3⟩), (4, some ⟨.int .i64, x4⟩)] = (ev X [(3, some ⟨.slX .U TRecord, x3⟩), (4, some ⟨.int .i64, x4⟩)] (⟨retK law08_CmlPart.rs law08_CmlPart.ps law08_CmlPart.r, []⟩ : Ks law08_CmlPart.R) (retK law08_CmlPart.rs law08_CmlPart.ps law08_CmlPart.r) : Option law08_CmlPart.R) := by kernel_rfl
theorem law08_CmlPart.q1_0 (n : Nat) (x3 : List DRecord) (x4 : Int) : law08_CmlPart.K1 n [(3, some ⟨.slX .U TRecord, x3⟩), (4, some ⟨.int .i64, x4⟩)] = law08_CmlPart.j1 n x3 x4 := (law08_CmlPart.q1_0_r n (law08_CmlPart.c1 n) x3 x4).trans (law08_CmlPart.s1 n x3 x4)
noncomputable def law08_CmlPart.l2 (n : Nat) : Nat → (List DRecord) → (List DRecord) → Int → Int → Option Bool
  | 0, _, _, _, _ => none
  | k + 1, x0, x3, x4, x5 =>
  (bif (decide (x5 < (x0.length : Int))) then (some (decide (x4 < (x3.length : Int)))) else some false).bind fun g1 =>
  bif g1 then (idxK x0 x5 fun e2 => idxK x3 x4 fun e3 => bif (((eqI e2.1.1 e3.1.1 && (eqI e2.1.2.1 e3.1.2.1 && (eqI e2.1.2.2.1 e3.1.2.2.1 && (eqS e2.1.2.2.2.1 e3.1.2.2.2.1 && (eqI e2.1.2.2.2.2.1 e3.1.2.2.2.2.1 && (eqS e2.1.2.2.2.2.2.1 e3.1.2.2.2.2.2.1 && (eqI e2.1.2.2.2.2.2.2.1 e3.1.2.2.2.2.2.2.1 && (eqS e2.1.2.2.2.2.2.2.2.1 e3.1.2.2.2.2.2.2.2.1 && true)))))))) && (eqI e2.2.1 e3.2.1 && true))) then (law08_CmlPart.j3 n (law08_CmlPart.l2 n k) x0 x3 (IntKind.i64.wrap (x4 + (1 : Int))) x5)
  else (law08_CmlPart.j3 n (law08_CmlPart.l2 n k) x0 x3 x4 x5))
  else (law08_CmlPart.j1 n x3 x4)
theorem law08_CmlPart.wb2 (n : Nat) (Kr2 : St → Option law08_CmlPart.R) (x0 : List DRecord) (x3 : List DRecord) (x4 : Int) (x5 : Int) (K1 : St → Option law08_CmlPart.R) (X3 : XC) : ev (law08_CmlPart.db2 n X3) (keepSt [(0, some ⟨.slB .U false TRecord, x0⟩), (3, some ⟨.slX .U TRecord, x3⟩), (4, some ⟨.int .i64, x4⟩), (5, some ⟨.int .i64, x5⟩)] [0, 3, 4, 5]) (⟨retK law08_CmlPart.rs law08_CmlPart.ps law08_CmlPart.r, [(0, K1)]⟩ : Ks law08_CmlPart.R) Kr2 =
  ((bif (decide (x5 < (x0.length : Int))) then (some (decide (x4 < (x3.length : Int)))) else some false).bind fun g1 =>
  bif g1 then (idxK x0 x5 fun e2 => idxK x3 x4 fun e3 => bif (((eqI e2.1.1 e3.1.1 && (eqI e2.1.2.1 e3.1.2.1 && (eqI e2.1.2.2.1 e3.1.2.2.1 && (eqS e2.1.2.2.2.1 e3.1.2.2.2.1 && (eqI e2.1.2.2.2.2.1 e3.1.2.2.2.2.1 && (eqS e2.1.2.2.2.2.2.1 e3.1.2.2.2.2.2.1 && (eqI e2.1.2.2.2.2.2.2.1 e3.1.2.2.2.2.2.2.1 && (eqS e2.1.2.2.2.2.2.2.2.1 e3.1.2.2.2.2.2.2.2.1 && true)))))))) && (eqI e2.2.1 e3.2.1 && true))) then (ev X3 [(0, some ⟨.slB .U false TRecord, x0⟩), (3, some ⟨.slX .U TRecord, x3⟩), (4, some ⟨.int .i64, (IntKind.i64.wrap (x4 + (1 : Int)))⟩), (5, some ⟨.int .i64, x5⟩)] (⟨retK law08_CmlPart.rs law08_CmlPart.ps law08_CmlPart.r, [(0, K1)]⟩ : Ks law08_CmlPart.R) (law08_CmlPart.Kb2 Kr2))
  else (ev X3 [(0, some ⟨.slB .U false TRecord, x0⟩), (3, some ⟨.slX .U TRecord, x3⟩), (4, some ⟨.int .i64, x4⟩), (5, some ⟨.int .i64, x5⟩)] (⟨retK law08_CmlPart.rs law08_CmlPart.ps law08_CmlPart.r, [(0, K1)]⟩ : Ks law08_CmlPart.R) (law08_CmlPart.Kb2 Kr2)))
  else (K1 [(3, some ⟨.slX .U TRecord, x3⟩), (4, some ⟨.int .i64, x4⟩)]) : Option law08_CmlPart.R) := by kernel_rfl
theorem law08_CmlPart.l2_ok (n : Nat) (k : Nat) : ∀ (x0 : List DRecord) (x3 : List DRecord) (x4 : Int) (x5 : Int), loopEv [0, 3, 4, 5] (fun s K => ev (law08_CmlPart.cb2 n) s (⟨retK law08_CmlPart.rs law08_CmlPart.ps law08_CmlPart.r, [(0, (law08_CmlPart.K1 n))]⟩ : Ks law08_CmlPart.R) K) k [(0, some ⟨.slB .U false TRecord, x0⟩), (3, some ⟨.slX .U TRecord, x3⟩), (4, some ⟨.int .i64, x4⟩), (5, some ⟨.int .i64, x5⟩)] = law08_CmlPart.l2 n k x0 x3 x4 x5 := by
  induction k with
  | zero => intros; rfl
  | succ k ih =>
    intro x0 x3 x4 x5
    exact (law08_CmlPart.wb2 n (fun st => loopEv [0, 3, 4, 5] (fun s K => ev (law08_CmlPart.cb2 n) s (⟨retK law08_CmlPart.rs law08_CmlPart.ps law08_CmlPart.r, [(0, (law08_CmlPart.K1 n))]⟩ : Ks law08_CmlPart.R) K) k st) x0 x3 x4 x5 (law08_CmlPart.K1 n) (law08_CmlPart.c3 n)).trans (by simp -implicitDefEqProofs only [law08_CmlPart.l2, law08_CmlPart.s3 n (fun st => loopEv [0, 3, 4, 5] (fun s K => ev (law08_CmlPart.cb2 n) s (⟨retK law08_CmlPart.rs law08_CmlPart.ps law08_CmlPart.r, [(0, (law08_CmlPart.K1 n))]⟩ : Ks law08_CmlPart.R) K) k st) (law08_CmlPart.l2 n k) ih, law08_CmlPart.q1_0 n] <;> kernel_rfl)
noncomputable def law08_CmlPart.d (n : Nat) (X1 Y2 : XC) : XC :=
  (.seq (.reg (.op (.mv 2 (.c ⟨.bool, (false : Bool)⟩)) none <| .nil)) <|
  (.seq (.reg (.op (.mv 6 (.t 0)) none <| .op (.call (some 7) (law08_few.sp n) [.v (.t 6)]) none <| .op (.mv 0 (.t 7)) none <| .nil)) <|
  (.seq (.reg (.op (.mv 8 (.t 0)) none <| .op (.call (some 9) (cml_Optimise.sp n) [.v (.t 8)]) none <| .op (.take 3 9) none <| .nil)) <|
  (.seq (.reg (.op (.mv 4 (.c ⟨.int .i64, ((0 : Int) : Int)⟩)) none <| .nil)) <|
  (.seq (.aft (.seq (.reg (.op (.mv 5 (.c ⟨.int .i64, ((0 : Int) : Int)⟩)) none <| .nil)) <|
  (.block 0 (.pre [.keep [0, 3, 4, 5]] (.loop n [0, 3, 4, 5] Y2)))) [.keep [3, 4]]) X1)))))
noncomputable abbrev law08_CmlPart.c (n : Nat) : XC := law08_CmlPart.d n (law08_CmlPart.c1 n) (law08_CmlPart.cb2 n)
noncomputable def law08_CmlPart.f (n : Nat) (a0 : List DRecord) : Option Bool :=
  (law08_few.f n a0).bind fun r1 => (cml_Optimise.f n r1).bind fun r2 => law08_CmlPart.l2 n n r1 r2 (0 : Int) (0 : Int)
theorem law08_CmlPart.w (n : Nat) (a0 : List DRecord) (X1 Y2 : XC) : evFn (law08_CmlPart.d n X1 Y2) law08_CmlPart.rs law08_CmlPart.ps law08_CmlPart.r (a0, ()) =
  ((law08_few.f n a0).bind fun r1 => (cml_Optimise.f n r1).bind fun r2 => loopEv [0, 3, 4, 5] (fun s K => ev Y2 s (⟨retK law08_CmlPart.rs law08_CmlPart.ps law08_CmlPart.r, [(0, (law08_CmlPart.H1 n X1))]⟩ : Ks law08_CmlPart.R) K) n [(0, some ⟨.slB .U false TRecord, r1⟩), (3, some ⟨.slX .U TRecord, r2⟩), (4, some ⟨.int .i64, (0 : Int)⟩), (5, some ⟨.int .i64, (0 : Int)⟩)] : Option law08_CmlPart.R) := by kernel_rfl
theorem law08_CmlPart.ok (n : Nat) (a0 : List DRecord) : evFn (law08_CmlPart.c n) law08_CmlPart.rs law08_CmlPart.ps law08_CmlPart.r (a0, ()) = law08_CmlPart.f n a0 := (law08_CmlPart.w n a0 (law08_CmlPart.c1 n) (law08_CmlPart.cb2 n)).trans (by simp -implicitDefEqProofs only [law08_CmlPart.f, law08_CmlPart.l2_ok n] <;> kernel_rfl)
noncomputable def law08_CmlPart.sp (n : Nat) : FSpec := { f := 5, ps := law08_CmlPart.ps, r := law08_CmlPart.r, run := fun x => law08_CmlPart.f n x.1 }
theorem law08_CmlPart.calls (n : Nat) : (law08_CmlPart.c n).calls = [law08_few.sp n, cml_Optimise.sp n, law08_live.sp n] := by kernel_rfl
theorem law08_CmlPart.fits (n : Nat) : fnB tab hd Try.f5 (law08_CmlPart.c n) law08_CmlPart.rs (law08_CmlPart.sp n).ps (law08_CmlPart.sp n).r = true := by kernel_rfl
theorem law08_CmlPart.sound (n : Nat) : Sound Try.prog (law08_CmlPart.sp n) := by
  refine fnB_sound tabOk eqFacts mixed (fn := Try.f5) (c := law08_CmlPart.c n) (rs := law08_CmlPart.rs) (by kernel_rfl) ?_ (law08_CmlPart.fits n) ?_
  · rw [law08_CmlPart.calls]
    intro s hs
    simp only [List.mem_cons, List.not_mem_nil, or_false] at hs
    rcases hs with rfl | rfl | rfl
    · exact law08_few.meets n
    · exact cml_Optimise.meets n
    · exact law08_live.meets n
  · rintro ⟨a0, ⟨⟩⟩ y h
    exact (law08_CmlPart.ok n a0).trans h
theorem law08_CmlPart.meets (n : Nat) : Meets Try.prog (law08_CmlPart.sp n) := (law08_CmlPart.sound n).meets
/-! backwater/backwaterref08.Cut -/
abbrev r08_Cut.ps : List (Ty × Bool) := [(.slB .U false TRecord, false), (.int .i64, false)]
abbrev r08_Cut.r : Ty := .slX .N TRecord
abbrev r08_Cut.rs : List RV := [.t 4]
abbrev r08_Cut.R : Type := (rtOf r08_Cut.ps r08_Cut.r).den
noncomputable def r08_Cut.d1 (n : Nat) : XC :=
  (.seq (.reg (.op (.take 25 5) none <| .op (.take 4 25) none <| .nil)) <|
  .ret)
noncomputable abbrev r08_Cut.c1 (n : Nat) : XC := r08_Cut.d1 n
noncomputable def r08_Cut.j1 (n : Nat) (x5 : List DRecord) : Option (List DRecord) :=
  some x5
theorem r08_Cut.s1 (n : Nat) (x5 : List DRecord) : ev (r08_Cut.c1 n) [(5, some ⟨.slX .N TRecord, x5⟩)] (⟨retK r08_Cut.rs r08_Cut.ps r08_Cut.r, []⟩ : Ks r08_Cut.R) (retK r08_Cut.rs r08_Cut.ps r08_Cut.r) = r08_Cut.j1 n x5 := by kernel_rfl
noncomputable def r08_Cut.H1 (n : Nat) (X : XC) : St → Option r08_Cut.R := fun st => ghK [.keep [5]] st fun st => ev X st (⟨retK r08_Cut.rs r08_Cut.ps r08_Cut.r, []⟩ : Ks r08_Cut.R) (retK r08_Cut.rs r08_Cut.ps r08_Cut.r)
noncomputable abbrev r08_Cut.K1 (n : Nat) : St → Option r08_Cut.R := r08_Cut.H1 n (r08_Cut.c1 n)
noncomputable def r08_Cut.Kb2 (Kr2 : St → Option r08_Cut.R) : St → Option r08_Cut.R := fun st => ghK [.keep [0, 1, 5, 6]] st Kr2
noncomputable def r08_Cut.d3 (n : Nat) : XC :=
  (.aft (.reg (.op (.mv 16 (.t 6)) none <| .op (.bin 17 .add (.t 16) (.c ⟨.int .i64, ((1 : Int) : Int)⟩)) none <| .op (.mv 6 (.t 17)) none <| .nil)) [.keep [0, 1, 5, 6]])
noncomputable abbrev r08_Cut.c3 (n : Nat) : XC := r08_Cut.d3 n
theorem r08_Cut.qb2_0 (Kr2 : St → Option r08_Cut.R) (kr2 : (List DRecord) → Int → (List DRecord) → Int → Option (List DRecord)) (hK2 : ∀ (x0 : List DRecord) (x1 : Int) (x5 : List DRecord) (x6 : Int), Kr2 [(0, some ⟨.slB .U false TRecord, x0⟩), (1, some ⟨.int .i64, x1⟩), (5, some ⟨.slX .N TRecord, x5⟩), (6, some ⟨.int .i64, x6⟩)] = kr2 x0 x1 x5 x6) (x0 : List DRecord) (x1 : Int) (x5 : List DRecord) (x6 : Int) : r08_Cut.Kb2 Kr2 [(0, some ⟨.slB .U false TRecord, x0⟩), (1, some ⟨.int .i64, x1⟩), (5, some ⟨.slX .N TRecord, x5⟩), (6, some ⟨.int .i64, x6⟩)] = kr2 x0 x1 x5 x6 := (by kernel_rfl : _ = Kr2 [(0, some ⟨.slB .U false TRecord, x0⟩), (1, some ⟨.int .i64, x1⟩), (5, some ⟨.slX .N TRecord, x5⟩), (6, some ⟨.int .i64, x6⟩)]).trans (hK2 x0 x1 x5 x6)
noncomputable def r08_Cut.j3 (n : Nat) (kr2 : (List DRecord) → Int → (List DRecord) → Int → Option (List DRecord)) (x0 : List DRecord) (x1 : Int) (x5 : List DRecord) (x6 : Int) : Option (List DRecord) :=
  kr2 x0 x1 x5 (IntKind.i64.wrap (x6 + (1 : Int)))
theorem r08_Cut.w3 (n : Nat) (Kr2 : St → Option r08_Cut.R) (x0 : List DRecord) (x1 : Int) (x5 : List DRecord) (x6 : Int) (K1 : St → Option r08_Cut.R) (Kb2 : St → Option r08_Cut.R) : ev (r08_Cut.d3 n) [(0, some ⟨.slB .U false TRecord, x0⟩), (1, some ⟨.int .i64, x1⟩), (5, some ⟨.slX .N TRecord, x5⟩), (6, some ⟨.int .i64, x6⟩)] (⟨retK r08_Cut.rs r08_Cut.ps r08_Cut.r, [(0, K1)]⟩ : Ks r08_Cut.R) Kb2 =
  (Kb2 [(0, some ⟨.slB .U false TRecord, x0⟩), (1, some ⟨.int .i64, x1⟩), (5, some ⟨.slX .N TRecord, x5⟩), (6, some ⟨.int .i64, (IntKind.i64.wrap (x6 + (1 : Int)))⟩)] : Option r08_Cut.R) := by kernel_rfl
theorem r08_Cut.s3 (n : Nat) (Kr2 : St → Option r08_Cut.R) (kr2 : (List DRecord) → Int → (List DRecord) → Int → Option (List DRecord)) (hK2 : ∀ (x0 : List DRecord) (x1 : Int) (x5 : List DRecord) (x6 : Int), Kr2 [(0, some ⟨.slB .U false TRecord, x0⟩), (1, some ⟨.int .i64, x1⟩), (5, some ⟨.slX .N TRecord, x5⟩), (6, some ⟨.int .i64, x6⟩)] = kr2 x0 x1 x5 x6) (x0 : List DRecord) (x1 : Int) (x5 : List DRecord) (x6 : Int) : ev (r08_Cut.c3 n) [(0, some ⟨.slB .U false TRecord, x0⟩), (1, some ⟨.int .i64, x1⟩), (5, some ⟨.slX .N TRecord, x5⟩), (6, some ⟨.int .i64, x6⟩)] (⟨retK r08_Cut.rs r08_Cut.ps r08_Cut.r, [(0, (r08_Cut.K1 n))]⟩ : Ks r08_Cut.R) (r08_Cut.Kb2 Kr2) = r08_Cut.j3 n kr2 x0 x1 x5 x6 := (r08_Cut.w3 n Kr2 x0 x1 x5 x6 (r08_Cut.K1 n) (r08_Cut.Kb2 Kr2)).trans (by simp -implicitDefEqProofs only [r08_Cut.j3, r08_Cut.qb2_0 Kr2 kr2 hK2] <;> kernel_rfl)
noncomputable def r08_Cut.H3 (n : Nat) (K1 : St → Option r08_Cut.R) (Kb2 : St → Option r08_Cut.R) (X : XC) : St → Option r08_Cut.R := fun st => ghK [.keep [0, 1, 5, 6]] st fun st => ev X st (⟨retK r08_Cut.rs r08_Cut.ps r08_Cut.r, [(0, K1)]⟩ : Ks r08_Cut.R) Kb2
noncomputable abbrev r08_Cut.K3 (n : Nat) (Kr2 : St → Option r08_Cut.R) : St → Option r08_Cut.R := r08_Cut.H3 n (r08_Cut.K1 n) (r08_Cut.Kb2 Kr2) (r08_Cut.c3 n)
noncomputable def r08_Cut.db2 (n : Nat) (X3 : XC) : XC :=
  (.aft (.seq (.seq (.reg (.op (.mv 7 (.t 6)) none <| .op (.mv 8 (.t 0)) none <| .op (.len 9 (.t 8) false) none <| .op (.bin 10 .lss (.t 7) (.t 9)) none <| .op (.mv 11 (.t 10)) none <| .grp 11 true (.op (.mv 12 (.t 6)) (some ([6, 11, 12], [12])) <| .op (.mv 13 (.t 1)) (some ([1, 11, 13], [13])) <| .op (.bin 14 .lss (.t 12) (.t 13)) (some ([11, 12, 13, 14], [14])) <| .nil) 14 15 [12, 13, 14] <| .nil)) <|
  (.cond (.t 15)
  .skip
  (.pre [.keep [5]] (.exit 0)))) <|
  (.seq (.aft (.block 1 (.reg (.op (.take 18 5) none <| .op (.mv 19 (.t 0)) none <| .op (.mv 20 (.t 6)) none <| .op (.idxA 21 (.t 19) (.t 20) 9 0) none <| .op (.ld 22 21 9 true) none <| .op (.bsl 23 TRecord [(.t 22)]) none <| .op (.app 24 18 (.t 23) 88 9) none <| .op (.take 5 24) none <| .nil))) [.keep [0, 1, 5, 6]]) X3)) [.keep [0, 1, 5, 6]])
noncomputable abbrev r08_Cut.cb2 (n : Nat) : XC := r08_Cut.db2 n (r08_Cut.c3 n)
theorem r08_Cut.q1_0_r (n : Nat) (X : XC) (x5 : List DRecord) : r08_Cut.H1 n X [(5, some ⟨.slX .N TRecord, x5⟩)] = (ev X [(5, some ⟨.slX .N TRecord, x5⟩)] (⟨retK r08_Cut.rs r08_Cut.ps r08_Cut.r, []⟩ : Ks r08_Cut.R) (retK r08_Cut.rs r08_Cut.ps r08_Cut.r) : Option r08_Cut.R) := by kernel_rfl
theorem r08_Cut.q1_0 (n : Nat) (x5 : List DRecord) : r08_Cut.K1 n [(5, some ⟨.slX .N TRecord, x5⟩)] = r08_Cut.j1 n x5 := (r08_Cut.q1_0_r n (r08_Cut.c1 n) x5).trans (r08_Cut.s1 n x5)
noncomputable def r08_Cut.l2 (n : Nat) : Nat → (List DRecord) → Int → (List DRecord) → Int → Option (List DRecord)
  | 0, _, _, _, _ => none
  | k + 1, x0, x1, x5, x6 =>
  (bif (decide (x6 < (x0.length : Int))) then (some (decide (x6 < x1))) else some false).bind fun g1 =>
  bif g1 then (idxK x0 x6 fun e2 => appK x5.length ([e2] : List DRecord).length 88 (r08_Cut.j3 n (r08_Cut.l2 n k) x0 x1 (x5 ++ ([e2] : List DRecord)) x6))
  else (r08_Cut.j1 n x5)
theorem r08_Cut.wb2 (n : Nat) (Kr2 : St → Option r08_Cut.R) (x0 : List DRecord) (x1 : Int) (x5 : List DRecord) (x6 : Int) (K1 : St → Option r08_Cut.R) (X3 : XC) : ev (r08_Cut.db2 n X3) (keepSt [(0, some ⟨.slB .U false TRecord, x0⟩), (1, some ⟨.int .i64, x1⟩), (5, some ⟨.slX .N TRecord, x5⟩), (6, some ⟨.int .i64, x6⟩)] [0, 1, 5, 6]) (⟨retK r08_Cut.rs r08_Cut.ps r08_Cut.r, [(0, K1)]⟩ : Ks r08_Cut.R) Kr2 =
  ((bif (decide (x6 < (x0.length : Int))) then (some (decide (x6 < x1))) else some false).bind fun g1 =>
  bif g1 then (idxK x0 x6 fun e2 => appK x5.length ([e2] : List DRecord).length 88 (ev X3 [(0, some ⟨.slB .U false TRecord, x0⟩), (1, some ⟨.int .i64, x1⟩), (5, some ⟨.slX .N TRecord, ((x5 ++ ([e2] : List DRecord)) : List DRecord)⟩), (6, some ⟨.int .i64, x6⟩)] (⟨retK r08_Cut.rs r08_Cut.ps r08_Cut.r, [(0, K1)]⟩ : Ks r08_Cut.R) (r08_Cut.Kb2 Kr2)))
  else (K1 [(5, some ⟨.slX .N TRecord, x5⟩)]) : Option r08_Cut.R) := by kernel_rfl
theorem r08_Cut.l2_ok (n : Nat) (k : Nat) : ∀ (x0 : List DRecord) (x1 : Int) (x5 : List DRecord) (x6 : Int), loopEv [0, 1, 5, 6] (fun s K => ev (r08_Cut.cb2 n) s (⟨retK r08_Cut.rs r08_Cut.ps r08_Cut.r, [(0, (r08_Cut.K1 n))]⟩ : Ks r08_Cut.R) K) k [(0, some ⟨.slB .U false TRecord, x0⟩), (1, some ⟨.int .i64, x1⟩), (5, some ⟨.slX .N TRecord, x5⟩), (6, some ⟨.int .i64, x6⟩)] = r08_Cut.l2 n k x0 x1 x5 x6 := by
  induction k with
  | zero => intros; rfl
  | succ k ih =>
    intro x0 x1 x5 x6
    exact (r08_Cut.wb2 n (fun st => loopEv [0, 1, 5, 6] (fun s K => ev (r08_Cut.cb2 n) s (⟨retK r08_Cut.rs r08_Cut.ps r08_Cut.r, [(0, (r08_Cut.K1 n))]⟩ : Ks r08_Cut.R) K) k st) x0 x1 x5 x6 (r08_Cut.K1 n) (r08_Cut.c3 n)).trans (by simp -implicitDefEqProofs only [r08_Cut.l2, r08_Cut.s3 n (fun st => loopEv [0, 1, 5, 6] (fun s K => ev (r08_Cut.cb2 n) s (⟨retK r08_Cut.rs r08_Cut.ps r08_Cut.r, [(0, (r08_Cut.K1 n))]⟩ : Ks r08_Cut.R) K) k st) (r08_Cut.l2 n k) ih, r08_Cut.q1_0 n] <;> kernel_rfl)
noncomputable def r08_Cut.d (n : Nat) (X1 Y2 : XC) : XC :=
  (.seq (.reg (.op (.mv 4 (.c ⟨.nil 0, ()⟩)) none <| .nil)) <|
  (.seq (.reg (.op (.mv 5 (.c ⟨.nil 0, ()⟩)) none <| .nil)) <|
  (.seq (.aft (.seq (.reg (.op (.mv 6 (.c ⟨.int .i64, ((0 : Int) : Int)⟩)) none <| .nil)) <|
  (.block 0 (.pre [.coe 5 (.slX .N TRecord), .keep [0, 1, 5, 6]] (.loop n [0, 1, 5, 6] Y2)))) [.keep [5]]) X1)))
noncomputable abbrev r08_Cut.c (n : Nat) : XC := r08_Cut.d n (r08_Cut.c1 n) (r08_Cut.cb2 n)
noncomputable def r08_Cut.f (n : Nat) (a0 : List DRecord) (a1 : Int) : Option (List DRecord) :=
  r08_Cut.l2 n n a0 a1 ([] : List DRecord) (0 : Int)
theorem r08_Cut.w (n : Nat) (a0 : List DRecord) (a1 : Int) (X1 Y2 : XC) : evFn (r08_Cut.d n X1 Y2) r08_Cut.rs r08_Cut.ps r08_Cut.r (a0, a1, ()) =
  (loopEv [0, 1, 5, 6] (fun s K => ev Y2 s (⟨retK r08_Cut.rs r08_Cut.ps r08_Cut.r, [(0, (r08_Cut.H1 n X1))]⟩ : Ks r08_Cut.R) K) n [(0, some ⟨.slB .U false TRecord, a0⟩), (1, some ⟨.int .i64, a1⟩), (5, some ⟨.slX .N TRecord, (([] : List DRecord) : List DRecord)⟩), (6, some ⟨.int .i64, (0 : Int)⟩)] : Option r08_Cut.R) := by kernel_rfl
theorem r08_Cut.ok (n : Nat) (a0 : List DRecord) (a1 : Int) : evFn (r08_Cut.c n) r08_Cut.rs r08_Cut.ps r08_Cut.r (a0, a1, ()) = r08_Cut.f n a0 a1 := (r08_Cut.w n a0 a1 (r08_Cut.c1 n) (r08_Cut.cb2 n)).trans (by simp -implicitDefEqProofs only [r08_Cut.f, r08_Cut.l2_ok n] <;> kernel_rfl)
noncomputable def r08_Cut.sp (n : Nat) : FSpec := { f := 24, ps := r08_Cut.ps, r := r08_Cut.r, run := fun x => r08_Cut.f n x.1 x.2.1 }
theorem r08_Cut.calls (n : Nat) : (r08_Cut.c n).calls = [] := by kernel_rfl
theorem r08_Cut.fits (n : Nat) : fnB tab hd Try.f24 (r08_Cut.c n) r08_Cut.rs (r08_Cut.sp n).ps (r08_Cut.sp n).r = true := by kernel_rfl
theorem r08_Cut.sound (n : Nat) : Sound Try.prog (r08_Cut.sp n) := by
  refine fnB_sound tabOk eqFacts mixed (fn := Try.f24) (c := r08_Cut.c n) (rs := r08_Cut.rs) (by kernel_rfl) ?_ (r08_Cut.fits n) ?_
  · rw [r08_Cut.calls]
    intro s hs; cases hs
  · rintro ⟨a0, a1, ⟨⟩⟩ y h
    exact (r08_Cut.ok n a0 a1).trans h
theorem r08_Cut.meets (n : Nat) : Meets Try.prog (r08_Cut.sp n) := (r08_Cut.sound n).meets
/-! backwater/backwaterref08.Drop -/
abbrev r08_Drop.ps : List (Ty × Bool) := [(.slB .U false TRecord, false), (.int .i64, false)]
abbrev r08_Drop.r : Ty := .slX .N TRecord
abbrev r08_Drop.rs : List RV := [.t 4]
abbrev r08_Drop.R : Type := (rtOf r08_Drop.ps r08_Drop.r).den
noncomputable def r08_Drop.d1 (n : Nat) : XC :=
  (.seq (.reg (.op (.take 23 5) none <| .op (.take 4 23) none <| .nil)) <|
  .ret)
noncomputable abbrev r08_Drop.c1 (n : Nat) : XC := r08_Drop.d1 n
noncomputable def r08_Drop.j1 (n : Nat) (x5 : List DRecord) : Option (List DRecord) :=
  some x5
theorem r08_Drop.s1 (n : Nat) (x5 : List DRecord) : ev (r08_Drop.c1 n) [(5, some ⟨.slX .N TRecord, x5⟩)] (⟨retK r08_Drop.rs r08_Drop.ps r08_Drop.r, []⟩ : Ks r08_Drop.R) (retK r08_Drop.rs r08_Drop.ps r08_Drop.r) = r08_Drop.j1 n x5 := by kernel_rfl
noncomputable def r08_Drop.H1 (n : Nat) (X : XC) : St → Option r08_Drop.R := fun st => ghK [.keep [5]] st fun st => ev X st (⟨retK r08_Drop.rs r08_Drop.ps r08_Drop.r, []⟩ : Ks r08_Drop.R) (retK r08_Drop.rs r08_Drop.ps r08_Drop.r)
noncomputable abbrev r08_Drop.K1 (n : Nat) : St → Option r08_Drop.R := r08_Drop.H1 n (r08_Drop.c1 n)
noncomputable def r08_Drop.Kb2 (Kr2 : St → Option r08_Drop.R) : St → Option r08_Drop.R := fun st => ghK [.keep [0, 1, 5, 6]] st Kr2
noncomputable def r08_Drop.d3 (n : Nat) : XC :=
  (.aft (.reg (.op (.mv 11 (.t 6)) none <| .op (.bin 12 .add (.t 11) (.c ⟨.int .i64, ((1 : Int) : Int)⟩)) none <| .op (.mv 6 (.t 12)) none <| .nil)) [.keep [0, 1, 5, 6]])
noncomputable abbrev r08_Drop.c3 (n : Nat) : XC := r08_Drop.d3 n
theorem r08_Drop.qb2_0 (Kr2 : St → Option r08_Drop.R) (kr2 : (List DRecord) → Int → (List DRecord) → Int → Option (List DRecord)) (hK2 : ∀ (x0 : List DRecord) (x1 : Int) (x5 : List DRecord) (x6 : Int), Kr2 [(0, some ⟨.slB .U false TRecord, x0⟩), (1, some ⟨.int .i64, x1⟩), (5, some ⟨.slX .N TRecord, x5⟩), (6, some ⟨.int .i64, x6⟩)] = kr2 x0 x1 x5 x6) (x0 : List DRecord) (x1 : Int) (x5 : List DRecord) (x6 : Int) : r08_Drop.Kb2 Kr2 [(0, some ⟨.slB .U false TRecord, x0⟩), (1, some ⟨.int .i64, x1⟩), (5, some ⟨.slX .N TRecord, x5⟩), (6, some ⟨.int .i64, x6⟩)] = kr2 x0 x1 x5 x6 := (by kernel_rfl : _ = Kr2 [(0, some ⟨.slB .U false TRecord, x0⟩), (1, some ⟨.int .i64, x1⟩), (5, some ⟨.slX .N TRecord, x5⟩), (6, some ⟨.int .i64, x6⟩)]).trans (hK2 x0 x1 x5 x6)
noncomputable def r08_Drop.j3 (n : Nat) (kr2 : (List DRecord) → Int → (List DRecord) → Int → Option (List DRecord)) (x0 : List DRecord) (x1 : Int) (x5 : List DRecord) (x6 : Int) : Option (List DRecord) :=
  kr2 x0 x1 x5 (IntKind.i64.wrap (x6 + (1 : Int)))
theorem r08_Drop.w3 (n : Nat) (Kr2 : St → Option r08_Drop.R) (x0 : List DRecord) (x1 : Int) (x5 : List DRecord) (x6 : Int) (K1 : St → Option r08_Drop.R) (Kb2 : St → Option r08_Drop.R) : ev (r08_Drop.d3 n) [(0, some ⟨.slB .U false TRecord, x0⟩), (1, some ⟨.int .i64, x1⟩), (5, some ⟨.slX .N TRecord, x5⟩), (6, some ⟨.int .i64, x6⟩)] (⟨retK r08_Drop.rs r08_Drop.ps r08_Drop.r, [(0, K1)]⟩ : Ks r08_Drop.R) Kb2 =
  (Kb2 [(0, some ⟨.slB .U false TRecord, x0⟩), (1, some ⟨.int .i64, x1⟩), (5, some ⟨.slX .N TRecord, x5⟩), (6, some ⟨.int .i64, (IntKind.i64.wrap (x6 + (1 : Int)))⟩)] : Option r08_Drop.R) := by kernel_rfl
theorem r08_Drop.s3 (n : Nat) (Kr2 : St → Option r08_Drop.R) (kr2 : (List DRecord) → Int → (List DRecord) → Int → Option (List DRecord)) (hK2 : ∀ (x0 : List DRecord) (x1 : Int) (x5 : List DRecord) (x6 : Int), Kr2 [(0, some ⟨.slB .U false TRecord, x0⟩), (1, some ⟨.int .i64, x1⟩), (5, some ⟨.slX .N TRecord, x5⟩), (6, some ⟨.int .i64, x6⟩)] = kr2 x0 x1 x5 x6) (x0 : List DRecord) (x1 : Int) (x5 : List DRecord) (x6 : Int) : ev (r08_Drop.c3 n) [(0, some ⟨.slB .U false TRecord, x0⟩), (1, some ⟨.int .i64, x1⟩), (5, some ⟨.slX .N TRecord, x5⟩), (6, some ⟨.int .i64, x6⟩)] (⟨retK r08_Drop.rs r08_Drop.ps r08_Drop.r, [(0, (r08_Drop.K1 n))]⟩ : Ks r08_Drop.R) (r08_Drop.Kb2 Kr2) = r08_Drop.j3 n kr2 x0 x1 x5 x6 := (r08_Drop.w3 n Kr2 x0 x1 x5 x6 (r08_Drop.K1 n) (r08_Drop.Kb2 Kr2)).trans (by simp -implicitDefEqProofs only [r08_Drop.j3, r08_Drop.qb2_0 Kr2 kr2 hK2] <;> kernel_rfl)
noncomputable def r08_Drop.H3 (n : Nat) (K1 : St → Option r08_Drop.R) (Kb2 : St → Option r08_Drop.R) (X : XC) : St → Option r08_Drop.R := fun st => ghK [.keep [0, 1, 5, 6]] st fun st => ev X st (⟨retK r08_Drop.rs r08_Drop.ps r08_Drop.r, [(0, K1)]⟩ : Ks r08_Drop.R) Kb2
noncomputable abbrev r08_Drop.K3 (n : Nat) (Kr2 : St → Option r08_Drop.R) : St → Option r08_Drop.R := r08_Drop.H3 n (r08_Drop.K1 n) (r08_Drop.Kb2 Kr2) (r08_Drop.c3 n)
noncomputable def r08_Drop.db2 (n : Nat) (X3 : XC) : XC :=
  (.aft (.seq (.seq (.reg (.op (.mv 7 (.t 6)) none <| .op (.mv 8 (.t 0)) none <| .op (.len 9 (.t 8) false) none <| .op (.bin 10 .lss (.t 7) (.t 9)) none <| .nil)) <|
  (.cond (.t 10)
  .skip
  (.pre [.keep [5]] (.exit 0)))) <|
  (.seq (.aft (.block 1 (.seq (.reg (.op (.mv 13 (.t 6)) none <| .op (.mv 14 (.t 1)) none <| .op (.bin 15 .geq (.t 13) (.t 14)) none <| .nil)) <|
  (.cond (.t 15)
  (.reg (.op (.take 16 5) none <| .op (.mv 17 (.t 0)) none <| .op (.mv 18 (.t 6)) none <| .op (.idxA 19 (.t 17) (.t 18) 9 0) none <| .op (.ld 20 19 9 true) none <| .op (.bsl 21 TRecord [(.t 20)]) none <| .op (.app 22 16 (.t 21) 88 9) none <| .op (.take 5 22) none <| .nil))
  .skip))) [.keep [0, 1, 5, 6]]) X3)) [.keep [0, 1, 5, 6]])
noncomputable abbrev r08_Drop.cb2 (n : Nat) : XC := r08_Drop.db2 n (r08_Drop.c3 n)
theorem r08_Drop.q1_0_r (n : Nat) (X : XC) (x5 : List DRecord) : r08_Drop.H1 n X [(5, some ⟨.slX .N TRecord, x5⟩)] = (ev X [(5, some ⟨.slX .N TRecord, x5⟩)] (⟨retK r08_Drop.rs r08_Drop.ps r08_Drop.r, []⟩ : Ks r08_Drop.R) (retK r08_Drop.rs r08_Drop.ps r08_Drop.r) : Option r08_Drop.R) := by kernel_rfl
theorem r08_Drop.q1_0 (n : Nat) (x5 : List DRecord) : r08_Drop.K1 n [(5, some ⟨.slX .N TRecord, x5⟩)] = r08_Drop.j1 n x5 := (r08_Drop.q1_0_r n (r08_Drop.c1 n) x5).trans (r08_Drop.s1 n x5)
noncomputable def r08_Drop.l2 (n : Nat) : Nat → (List DRecord) → Int → (List DRecord) → Int → Option (List DRecord)
  | 0, _, _, _, _ => none
  | k + 1, x0, x1, x5, x6 =>
  bif (decide (x6 < (x0.length : Int))) then (bif (decide (x1 ≤ x6)) then (idxK x0 x6 fun e1 => appK x5.length ([e1] : List DRecord).length 88 (r08_Drop.j3 n (r08_Drop.l2 n k) x0 x1 (x5 ++ ([e1] : List DRecord)) x6))
  else (r08_Drop.j3 n (r08_Drop.l2 n k) x0 x1 x5 x6))
  else (r08_Drop.j1 n x5)
theorem r08_Drop.wb2 (n : Nat) (Kr2 : St → Option r08_Drop.R) (x0 : List DRecord) (x1 : Int) (x5 : List DRecord) (x6 : Int) (K1 : St → Option r08_Drop.R) (X3 : XC) : ev (r08_Drop.db2 n X3) (keepSt [(0, some ⟨.slB .U false TRecord, x0⟩), (1, some ⟨.int .i64, x1⟩), (5, some ⟨.slX .N TRecord, x5⟩), (6, some ⟨.int .i64, x6⟩)] [0, 1, 5, 6]) (⟨retK r08_Drop.rs r08_Drop.ps r08_Drop.r, [(0, K1)]⟩ : Ks r08_Drop.R) Kr2 =
  (bif (decide (x6 < (x0.length : Int))) then (bif (decide (x1 ≤ x6)) then (idxK x0 x6 fun e1 => appK x5.length ([e1] : List DRecord).length 88 (ev X3 [(0, some ⟨.slB .U false TRecord, x0⟩), (1, some ⟨.int .i64, x1⟩), (5, some ⟨.slX .N TRecord, ((x5 ++ ([e1] : List DRecord)) : List DRecord)⟩), (6, some ⟨.int .i64, x6⟩)] (⟨retK r08_Drop.rs r08_Drop.ps r08_Drop.r, [(0, K1)]⟩ : Ks r08_Drop.R) (r08_Drop.Kb2 Kr2)))
  else (ev X3 [(0, some ⟨.slB .U false TRecord, x0⟩), (1, some ⟨.int .i64, x1⟩), (5, some ⟨.slX .N TRecord, x5⟩), (6, some ⟨.int .i64, x6⟩)] (⟨retK r08_Drop.rs r08_Drop.ps r08_Drop.r, [(0, K1)]⟩ : Ks r08_Drop.R) (r08_Drop.Kb2 Kr2)))
  else (K1 [(5, some ⟨.slX .N TRecord, x5⟩)]) : Option r08_Drop.R) := by kernel_rfl
theorem r08_Drop.l2_ok (n : Nat) (k : Nat) : ∀ (x0 : List DRecord) (x1 : Int) (x5 : List DRecord) (x6 : Int), loopEv [0, 1, 5, 6] (fun s K => ev (r08_Drop.cb2 n) s (⟨retK r08_Drop.rs r08_Drop.ps r08_Drop.r, [(0, (r08_Drop.K1 n))]⟩ : Ks r08_Drop.R) K) k [(0, some ⟨.slB .U false TRecord, x0⟩), (1, some ⟨.int .i64, x1⟩), (5, some ⟨.slX .N TRecord, x5⟩), (6, some ⟨.int .i64, x6⟩)] = r08_Drop.l2 n k x0 x1 x5 x6 := by
  induction k with
  | zero => intros; rfl
  | succ k ih =>
    intro x0 x1 x5 x6
    exact (r08_Drop.wb2 n (fun st => loopEv [0, 1, 5, 6] (fun s K => ev (r08_Drop.cb2 n) s (⟨retK r08_Drop.rs r08_Drop.ps r08_Drop.r, [(0, (r08_Drop.K1 n))]⟩ : Ks r08_Drop.R) K) k st) x0 x1 x5 x6 (r08_Drop.K1 n) (r08_Drop.c3 n)).trans (by simp -implicitDefEqProofs only [r08_Drop.l2, r08_Drop.s3 n (fun st => loopEv [0, 1, 5, 6] (fun s K => ev (r08_Drop.cb2 n) s (⟨retK r08_Drop.rs r08_Drop.ps r08_Drop.r, [(0, (r08_Drop.K1 n))]⟩ : Ks r08_Drop.R) K) k st) (r08_Drop.l2 n k) ih, r08_Drop.q1_0 n] <;> kernel_rfl)
noncomputable def r08_Drop.d (n : Nat) (X1 Y2 : XC) : XC :=
  (.seq (.reg (.op (.mv 4 (.c ⟨.nil 0, ()⟩)) none <| .nil)) <|
  (.seq (.reg (.op (.mv 5 (.c ⟨.nil 0, ()⟩)) none <| .nil)) <|
  (.seq (.aft (.seq (.reg (.op (.mv 6 (.c ⟨.int .i64, ((0 : Int) : Int)⟩)) none <| .nil)) <|
  (.block 0 (.pre [.coe 5 (.slX .N TRecord), .keep [0, 1, 5, 6]] (.loop n [0, 1, 5, 6] Y2)))) [.keep [5]]) X1)))
noncomputable abbrev r08_Drop.c (n : Nat) : XC := r08_Drop.d n (r08_Drop.c1 n) (r08_Drop.cb2 n)
noncomputable def r08_Drop.f (n : Nat) (a0 : List DRecord) (a1 : Int) : Option (List DRecord) :=
  r08_Drop.l2 n n a0 a1 ([] : List DRecord) (0 : Int)
theorem r08_Drop.w (n : Nat) (a0 : List DRecord) (a1 : Int) (X1 Y2 : XC) : evFn (r08_Drop.d n X1 Y2) r08_Drop.rs r08_Drop.ps r08_Drop.r (a0, a1, ()) =
  (loopEv [0, 1, 5, 6] (fun s K => ev Y2 s (⟨retK r08_Drop.rs r08_Drop.ps r08_Drop.r, [(0, (r08_Drop.H1 n X1))]⟩ : Ks r08_Drop.R) K) n [(0, some ⟨.slB .U false TRecord, a0⟩), (1, some ⟨.int .i64, a1⟩), (5, some ⟨.slX .N TRecord, (([] : List DRecord) : List DRecord)⟩), (6, some ⟨.int .i64, (0 : Int)⟩)] : Option r08_Drop.R) := by kernel_rfl
theorem r08_Drop.ok (n : Nat) (a0 : List DRecord) (a1 : Int) : evFn (r08_Drop.c n) r08_Drop.rs r08_Drop.ps r08_Drop.r (a0, a1, ()) = r08_Drop.f n a0 a1 := (r08_Drop.w n a0 a1 (r08_Drop.c1 n) (r08_Drop.cb2 n)).trans (by simp -implicitDefEqProofs only [r08_Drop.f, r08_Drop.l2_ok n] <;> kernel_rfl)
noncomputable def r08_Drop.sp (n : Nat) : FSpec := { f := 25, ps := r08_Drop.ps, r := r08_Drop.r, run := fun x => r08_Drop.f n x.1 x.2.1 }
theorem r08_Drop.calls (n : Nat) : (r08_Drop.c n).calls = [] := by kernel_rfl
theorem r08_Drop.fits (n : Nat) : fnB tab hd Try.f25 (r08_Drop.c n) r08_Drop.rs (r08_Drop.sp n).ps (r08_Drop.sp n).r = true := by kernel_rfl
theorem r08_Drop.sound (n : Nat) : Sound Try.prog (r08_Drop.sp n) := by
  refine fnB_sound tabOk eqFacts mixed (fn := Try.f25) (c := r08_Drop.c n) (rs := r08_Drop.rs) (by kernel_rfl) ?_ (r08_Drop.fits n) ?_
  · rw [r08_Drop.calls]
    intro s hs; cases hs
  · rintro ⟨a0, a1, ⟨⟩⟩ y h
    exact (r08_Drop.ok n a0 a1).trans h
theorem r08_Drop.meets (n : Nat) : Meets Try.prog (r08_Drop.sp n) := (r08_Drop.sound n).meets
/-! backwater/cml.Ops -/
abbrev cml_Ops.ps : List (Ty × Bool) := [(.slB .U false TRecord, false)]
abbrev cml_Ops.r : Ty := .slX .S TOp
abbrev cml_Ops.rs : List RV := [.t 2]
abbrev cml_Ops.R : Type := (rtOf cml_Ops.ps cml_Ops.r).den
noncomputable def cml_Ops.d1 (n : Nat) : XC :=
  (.seq (.reg (.op (.take 21 3) none <| .op (.take 2 21) none <| .nil)) <|
  .ret)
noncomputable abbrev cml_Ops.c1 (n : Nat) : XC := cml_Ops.d1 n
noncomputable def cml_Ops.j1 (n : Nat) (x3 : List DOp) : Option (List DOp) :=
  some x3
theorem cml_Ops.s1 (n : Nat) (x3 : List DOp) : ev (cml_Ops.c1 n) [(3, some ⟨.slX .S TOp, x3⟩)] (⟨retK cml_Ops.rs cml_Ops.ps cml_Ops.r, []⟩ : Ks cml_Ops.R) (retK cml_Ops.rs cml_Ops.ps cml_Ops.r) = cml_Ops.j1 n x3 := by kernel_rfl
noncomputable def cml_Ops.H1 (n : Nat) (X : XC) : St → Option cml_Ops.R := fun st => ghK [.keep [3]] st fun st => ev X st (⟨retK cml_Ops.rs cml_Ops.ps cml_Ops.r, []⟩ : Ks cml_Ops.R) (retK cml_Ops.rs cml_Ops.ps cml_Ops.r)
noncomputable abbrev cml_Ops.K1 (n : Nat) : St → Option cml_Ops.R := cml_Ops.H1 n (cml_Ops.c1 n)
noncomputable def cml_Ops.Kb2 (Kr2 : St → Option cml_Ops.R) : St → Option cml_Ops.R := fun st => ghK [.keep [3, 9, 10, 11]] st Kr2
noncomputable def cml_Ops.d3 (n : Nat) : XC :=
  (.aft (.reg (.op (.bin 20 .add (.t 11) (.c ⟨.int .i64, ((1 : Int) : Int)⟩)) none <| .op (.mv 11 (.t 20)) none <| .nil)) [.keep [3, 9, 10, 11]])
noncomputable abbrev cml_Ops.c3 (n : Nat) : XC := cml_Ops.d3 n
theorem cml_Ops.qb2_0 (Kr2 : St → Option cml_Ops.R) (kr2 : (List DOp) → (List DRecord) → Int → Int → Option (List DOp)) (hK2 : ∀ (x3 : List DOp) (x9 : List DRecord) (x10 : Int) (x11 : Int), Kr2 [(3, some ⟨.slX .S TOp, x3⟩), (9, some ⟨.slB .U false TRecord, x9⟩), (10, some ⟨.int .i64, x10⟩), (11, some ⟨.int .i64, x11⟩)] = kr2 x3 x9 x10 x11) (x3 : List DOp) (x9 : List DRecord) (x10 : Int) (x11 : Int) : cml_Ops.Kb2 Kr2 [(3, some ⟨.slX .S TOp, x3⟩), (9, some ⟨.slB .U false TRecord, x9⟩), (10, some ⟨.int .i64, x10⟩), (11, some ⟨.int .i64, x11⟩)] = kr2 x3 x9 x10 x11 := (by kernel_rfl : _ = Kr2 [(3, some ⟨.slX .S TOp, x3⟩), (9, some ⟨.slB .U false TRecord, x9⟩), (10, some ⟨.int .i64, x10⟩), (11, some ⟨.int .i64, x11⟩)]).trans (hK2 x3 x9 x10 x11)
noncomputable def cml_Ops.j3 (n : Nat) (kr2 : (List DOp) → (List DRecord) → Int → Int → Option (List DOp)) (x3 : List DOp) (x9 : List DRecord) (x10 : Int) (x11 : Int) : Option (List DOp) :=
  kr2 x3 x9 x10 (IntKind.i64.wrap (x11 + (1 : Int)))
theorem cml_Ops.w3 (n : Nat) (Kr2 : St → Option cml_Ops.R) (x3 : List DOp) (x9 : List DRecord) (x10 : Int) (x11 : Int) (K1 : St → Option cml_Ops.R) (Kb2 : St → Option cml_Ops.R) : ev (cml_Ops.d3 n) [(3, some ⟨.slX .S TOp, x3⟩), (9, some ⟨.slB .U false TRecord, x9⟩), (10, some ⟨.int .i64, x10⟩), (11, some ⟨.int .i64, x11⟩)] (⟨retK cml_Ops.rs cml_Ops.ps cml_Ops.r, [(0, K1)]⟩ : Ks cml_Ops.R) Kb2 =
  (Kb2 [(3, some ⟨.slX .S TOp, x3⟩), (9, some ⟨.slB .U false TRecord, x9⟩), (10, some ⟨.int .i64, x10⟩), (11, some ⟨.int .i64, (IntKind.i64.wrap (x11 + (1 : Int)))⟩)] : Option cml_Ops.R) := by kernel_rfl
theorem cml_Ops.s3 (n : Nat) (Kr2 : St → Option cml_Ops.R) (kr2 : (List DOp) → (List DRecord) → Int → Int → Option (List DOp)) (hK2 : ∀ (x3 : List DOp) (x9 : List DRecord) (x10 : Int) (x11 : Int), Kr2 [(3, some ⟨.slX .S TOp, x3⟩), (9, some ⟨.slB .U false TRecord, x9⟩), (10, some ⟨.int .i64, x10⟩), (11, some ⟨.int .i64, x11⟩)] = kr2 x3 x9 x10 x11) (x3 : List DOp) (x9 : List DRecord) (x10 : Int) (x11 : Int) : ev (cml_Ops.c3 n) [(3, some ⟨.slX .S TOp, x3⟩), (9, some ⟨.slB .U false TRecord, x9⟩), (10, some ⟨.int .i64, x10⟩), (11, some ⟨.int .i64, x11⟩)] (⟨retK cml_Ops.rs cml_Ops.ps cml_Ops.r, [(0, (cml_Ops.K1 n))]⟩ : Ks cml_Ops.R) (cml_Ops.Kb2 Kr2) = cml_Ops.j3 n kr2 x3 x9 x10 x11 := (cml_Ops.w3 n Kr2 x3 x9 x10 x11 (cml_Ops.K1 n) (cml_Ops.Kb2 Kr2)).trans (by simp -implicitDefEqProofs only [cml_Ops.j3, cml_Ops.qb2_0 Kr2 kr2 hK2] <;> kernel_rfl)
noncomputable def cml_Ops.H3 (n : Nat) (K1 : St → Option cml_Ops.R) (Kb2 : St → Option cml_Ops.R) (X : XC) : St → Option cml_Ops.R := fun st => ghK [.keep [3, 9, 10, 11]] st fun st => ev X st (⟨retK cml_Ops.rs cml_Ops.ps cml_Ops.r, [(0, K1)]⟩ : Ks cml_Ops.R) Kb2
noncomputable abbrev cml_Ops.K3 (n : Nat) (Kr2 : St → Option cml_Ops.R) : St → Option cml_Ops.R := cml_Ops.H3 n (cml_Ops.K1 n) (cml_Ops.Kb2 Kr2) (cml_Ops.c3 n)
noncomputable def cml_Ops.db2 (n : Nat) (X3 : XC) : XC :=
  (.aft (.seq (.reg (.op (.bin 12 .lss (.t 11) (.t 10)) none <| .nil)) <|
  (.seq (.cond (.t 12)
  .skip
  (.pre [.keep [3]] (.exit 0))) <|
  (.seq (.aft (.block 1 (.seq (.reg (.op (.idxA 13 (.t 9) (.t 11) 9 0) none <| .op (.ld 14 13 9 true) none <| .op (.alloc 5 ⟨TRecord, ((((0 : Int), (0 : Int), (0 : Int), ([] : List Int), (0 : Int), ([] : List Int), (0 : Int), ([] : List Int), ()), (0 : Int), ()) : DRecord)⟩) none <| .op (.st 5 (.t 14) 9) none <| .nil)) <|
  (.reg (.op (.take 15 3) none <| .op (.fa 16 5 0 0) none <| .op (.ld 17 16 8 true) none <| .op (.bsl 18 TOp [(.t 17)]) none <| .op (.app 19 15 (.t 18) 80 8) none <| .op (.take 3 19) none <| .nil)))) [.keep [3, 9, 10, 11]]) X3))) [.keep [3, 9, 10, 11]])
noncomputable abbrev cml_Ops.cb2 (n : Nat) : XC := cml_Ops.db2 n (cml_Ops.c3 n)
theorem cml_Ops.q1_0_r (n : Nat) (X : XC) (x3 : List DOp) : cml_Ops.H1 n X [(3, some ⟨.slX .S TOp, x3⟩)] = (ev X [(3, some ⟨.slX .S TOp, x3⟩)] (⟨retK cml_Ops.rs cml_Ops.ps cml_Ops.r, []⟩ : Ks cml_Ops.R) (retK cml_Ops.rs cml_Ops.ps cml_Ops.r) : Option cml_Ops.R) := by kernel_rfl
theorem cml_Ops.q1_0 (n : Nat) (x3 : List DOp) : cml_Ops.K1 n [(3, some ⟨.slX .S TOp, x3⟩)] = cml_Ops.j1 n x3 := (cml_Ops.q1_0_r n (cml_Ops.c1 n) x3).trans (cml_Ops.s1 n x3)
noncomputable def cml_Ops.l2 (n : Nat) : Nat → (List DOp) → (List DRecord) → Int → Int → Option (List DOp)
  | 0, _, _, _, _ => none
  | k + 1, x3, x9, x10, x11 =>
  bif (decide (x11 < x10)) then (idxK x9 x11 fun e1 => appK x3.length ([e1.1] : List DOp).length 80 (cml_Ops.j3 n (cml_Ops.l2 n k) (x3 ++ ([e1.1] : List DOp)) x9 x10 x11))
  else (cml_Ops.j1 n x3)
theorem cml_Ops.wb2 (n : Nat) (Kr2 : St → Option cml_Ops.R) (x3 : List DOp) (x9 : List DRecord) (x10 : Int) (x11 : Int) (K1 : St → Option cml_Ops.R) (X3 : XC) : ev (cml_Ops.db2 n X3) (keepSt [(3, some ⟨.slX .S TOp, x3⟩), (9, some ⟨.slB .U false TRecord, x9⟩), (10, some ⟨.int .i64, x10⟩), (11, some ⟨.int .i64, x11⟩)] [3, 9, 10, 11]) (⟨retK cml_Ops.rs cml_Ops.ps cml_Ops.r, [(0, K1)]⟩ : Ks cml_Ops.R) Kr2 =
  (bif (decide (x11 < x10)) then (idxK x9 x11 fun e1 => appK x3.length ([e1.1] : List DOp).length 80 (ev X3 [(3, some ⟨.slX .S TOp, ((x3 ++ ([e1.1] : List DOp)) : List DOp)⟩), (9, some ⟨.slB .U false TRecord, x9⟩), (10, some ⟨.int .i64, x10⟩), (11, some ⟨.int .i64, x11⟩)] (⟨retK cml_Ops.rs cml_Ops.ps cml_Ops.r, [(0, K1)]⟩ : Ks cml_Ops.R) (cml_Ops.Kb2 Kr2)))
  else (K1 [(3, some ⟨.slX .S TOp, x3⟩)]) : Option cml_Ops.R) := by kernel_rfl
theorem cml_Ops.l2_ok (n : Nat) (k : Nat) : ∀ (x3 : List DOp) (x9 : List DRecord) (x10 : Int) (x11 : Int), loopEv [3, 9, 10, 11] (fun s K => ev (cml_Ops.cb2 n) s (⟨retK cml_Ops.rs cml_Ops.ps cml_Ops.r, [(0, (cml_Ops.K1 n))]⟩ : Ks cml_Ops.R) K) k [(3, some ⟨.slX .S TOp, x3⟩), (9, some ⟨.slB .U false TRecord, x9⟩), (10, some ⟨.int .i64, x10⟩), (11, some ⟨.int .i64, x11⟩)] = cml_Ops.l2 n k x3 x9 x10 x11 := by
  induction k with
  | zero => intros; rfl
  | succ k ih =>
    intro x3 x9 x10 x11
    exact (cml_Ops.wb2 n (fun st => loopEv [3, 9, 10, 11] (fun s K => ev (cml_Ops.cb2 n) s (⟨retK cml_Ops.rs cml_Ops.ps cml_Ops.r, [(0, (cml_Ops.K1 n))]⟩ : Ks cml_Ops.R) K) k st) x3 x9 x10 x11 (cml_Ops.K1 n) (cml_Ops.c3 n)).trans (by simp -implicitDefEqProofs only [cml_Ops.l2, cml_Ops.s3 n (fun st => loopEv [3, 9, 10, 11] (fun s K => ev (cml_Ops.cb2 n) s (⟨retK cml_Ops.rs cml_Ops.ps cml_Ops.r, [(0, (cml_Ops.K1 n))]⟩ : Ks cml_Ops.R) K) k st) (cml_Ops.l2 n k) ih, cml_Ops.q1_0 n] <;> kernel_rfl)
noncomputable def cml_Ops.d (n : Nat) (X1 Y2 : XC) : XC :=
  (.seq (.reg (.op (.mv 2 (.c ⟨.nil 0, ()⟩)) none <| .nil)) <|
  (.seq (.reg (.op (.mv 6 (.t 0)) none <| .op (.len 7 (.t 6) false) none <| .op (.mk 8 ⟨TOp, (((0 : Int), (0 : Int), (0 : Int), ([] : List Int), (0 : Int), ([] : List Int), (0 : Int), ([] : List Int), ()) : DOp)⟩ (.c ⟨.int .i64, ((0 : Int) : Int)⟩) (.t 7) 80) none <| .op (.take 3 8) none <| .nil)) <|
  (.seq (.aft (.seq (.reg (.op (.mv 9 (.t 0)) none <| .op (.len 10 (.t 9) false) none <| .op (.mv 11 (.c ⟨.int .i64, ((0 : Int) : Int)⟩)) none <| .nil)) <|
  (.block 0 (.pre [.keep [3, 9, 10, 11]] (.loop n [3, 9, 10, 11] Y2)))) [.keep [3]]) X1)))
noncomputable abbrev cml_Ops.c (n : Nat) : XC := cml_Ops.d n (cml_Ops.c1 n) (cml_Ops.cb2 n)
noncomputable def cml_Ops.f (n : Nat) (a0 : List DRecord) : Option (List DOp) :=
  mkK (0 : Int) (a0.length : Int) 80 (cml_Ops.l2 n n (List.replicate ((0 : Int)).toNat ((0 : Int), (0 : Int), (0 : Int), ([] : List Int), (0 : Int), ([] : List Int), (0 : Int), ([] : List Int), ())) a0 (a0.length : Int) (0 : Int))
theorem cml_Ops.w (n : Nat) (a0 : List DRecord) (X1 Y2 : XC) : evFn (cml_Ops.d n X1 Y2) cml_Ops.rs cml_Ops.ps cml_Ops.r (a0, ()) =
  (mkK (0 : Int) (a0.length : Int) 80 (loopEv [3, 9, 10, 11] (fun s K => ev Y2 s (⟨retK cml_Ops.rs cml_Ops.ps cml_Ops.r, [(0, (cml_Ops.H1 n X1))]⟩ : Ks cml_Ops.R) K) n [(3, some ⟨.slX .S TOp, ((List.replicate ((0 : Int)).toNat ((0 : Int), (0 : Int), (0 : Int), ([] : List Int), (0 : Int), ([] : List Int), (0 : Int), ([] : List Int), ())) : List DOp)⟩), (9, some ⟨.slB .U false TRecord, a0⟩), (10, some ⟨.int .i64, (a0.length : Int)⟩), (11, some ⟨.int .i64, (0 : Int)⟩)]) : Option cml_Ops.R) := by kernel_rfl
theorem cml_Ops.ok (n : Nat) (a0 : List DRecord) : evFn (cml_Ops.c n) cml_Ops.rs cml_Ops.ps cml_Ops.r (a0, ()) = cml_Ops.f n a0 := (cml_Ops.w n a0 (cml_Ops.c1 n) (cml_Ops.cb2 n)).trans (by simp -implicitDefEqProofs only [cml_Ops.f, cml_Ops.l2_ok n] <;> kernel_rfl)
noncomputable def cml_Ops.sp (n : Nat) : FSpec := { f := 21, ps := cml_Ops.ps, r := cml_Ops.r, run := fun x => cml_Ops.f n x.1 }
theorem cml_Ops.calls (n : Nat) : (cml_Ops.c n).calls = [] := by kernel_rfl
theorem cml_Ops.fits (n : Nat) : fnB tab hd Try.f21 (cml_Ops.c n) cml_Ops.rs (cml_Ops.sp n).ps (cml_Ops.sp n).r = true := by kernel_rfl
theorem cml_Ops.sound (n : Nat) : Sound Try.prog (cml_Ops.sp n) := by
  refine fnB_sound tabOk eqFacts mixed (fn := Try.f21) (c := cml_Ops.c n) (rs := cml_Ops.rs) (by kernel_rfl) ?_ (cml_Ops.fits n) ?_
  · rw [cml_Ops.calls]
    intro s hs; cases hs
  · rintro ⟨a0, ⟨⟩⟩ y h
    exact (cml_Ops.ok n a0).trans h
theorem cml_Ops.meets (n : Nat) : Meets Try.prog (cml_Ops.sp n) := (cml_Ops.sound n).meets
/-! backwater/backwaterlaw08.CmlCuts -/
abbrev law08_CmlCuts.ps : List (Ty × Bool) := [(.slB .U false TRecord, false), (.int .i64, false), (.int .u32, false)]
abbrev law08_CmlCuts.r : Ty := .bool
abbrev law08_CmlCuts.rs : List RV := [.t 6]
abbrev law08_CmlCuts.R : Type := (rtOf law08_CmlCuts.ps law08_CmlCuts.r).den
noncomputable def law08_CmlCuts.d2 (n : Nat) : XC :=
  (.seq (.reg (.op (.call (some 77) (law08_live.sp n) []) none <| .op (.mv 78 (.t 77)) none <| .grp 78 true (.op (.bor 79 10) (some ([10, 78, 79], [79])) <| .op (.len 80 (.t 79) false) (some ([10, 78, 79, 80], [80])) <| .op (.mv 81 (.t 0)) (some ([0, 78, 81], [81])) <| .op (.len 82 (.t 81) false) (some ([78, 81, 82], [82])) <| .op (.bin 83 .eql (.t 80) (.t 82)) (some ([78, 80, 82, 83], [83])) <| .nil) 83 84 [79, 80, 81, 82, 83] <| .op (.mv 85 (.t 84)) none <| .grp 85 true (.op (.bsl 86 TRecord []) (some ([85, 86], [86])) <| .op (.bor 87 7) (some ([7, 85, 87], [87])) <| .op (.app 88 86 (.t 87) 88 9) (some ([7, 85, 86, 87, 88], [86, 88])) <| .op (.bor 89 8) (some ([8, 85, 89], [89])) <| .op (.app 90 88 (.t 89) 88 9) (some ([8, 85, 88, 89, 90], [88, 90])) <| .op (.mv 91 (.t 0)) (some ([0, 85, 91], [91])) <| .op (.call (some 92) (cml_Same.sp n) [.v (.t 90), .v (.t 91)]) (some ([85, 90, 91, 92], [92])) <| .nil) 92 93 [86, 87, 88, 89, 90, 91, 92] <| .op (.mv 6 (.t 93)) none <| .nil)) <|
  .ret)
noncomputable abbrev law08_CmlCuts.c2 (n : Nat) : XC := law08_CmlCuts.d2 n
noncomputable def law08_CmlCuts.j2 (n : Nat) (x0 : List DRecord) (x7 : List DRecord) (x8 : List DRecord) (x10 : List DOp) : Option Bool :=
  (law08_live.f n).bind fun r1 => (bif r1 then (some (decide ((x10.length : Int) = (x0.length : Int)))) else some false).bind fun g2 =>
  (bif g2 then (appK ([] : List DRecord).length x7.length 88 (appK (([] : List DRecord) ++ x7).length x8.length 88 ((cml_Same.f n ((([] : List DRecord) ++ x7) ++ x8) x0).bind fun r4 => some r4))) else some false).bind fun g3 =>
  some g3
theorem law08_CmlCuts.s2 (n : Nat) (x0 : List DRecord) (x7 : List DRecord) (x8 : List DRecord) (x10 : List DOp) : ev (law08_CmlCuts.c2 n) [(0, some ⟨.slB .U false TRecord, x0⟩), (7, some ⟨.slX .U TRecord, x7⟩), (8, some ⟨.slX .U TRecord, x8⟩), (10, some ⟨.slX .S TOp, x10⟩)] (⟨retK law08_CmlCuts.rs law08_CmlCuts.ps law08_CmlCuts.r, []⟩ : Ks law08_CmlCuts.R) (retK law08_CmlCuts.rs law08_CmlCuts.ps law08_CmlCuts.r) = law08_CmlCuts.j2 n x0 x7 x8 x10 := by kernel_rfl
noncomputable def law08_CmlCuts.H2 (n : Nat) (X : XC) : St → Option law08_CmlCuts.R := fun st => ghK [.keep [0, 7, 8, 10]] st fun st => ev X st (⟨retK law08_CmlCuts.rs law08_CmlCuts.ps law08_CmlCuts.r, []⟩ : Ks law08_CmlCuts.R) (retK law08_CmlCuts.rs law08_CmlCuts.ps law08_CmlCuts.r)
noncomputable abbrev law08_CmlCuts.K2 (n : Nat) : St → Option law08_CmlCuts.R := law08_CmlCuts.H2 n (law08_CmlCuts.c2 n)
noncomputable def law08_CmlCuts.Kb3 (Kr3 : St → Option law08_CmlCuts.R) : St → Option law08_CmlCuts.R := fun st => ghK [.keep [0, 7, 8, 10, 11]] st Kr3
noncomputable def law08_CmlCuts.d4 (n : Nat) : XC :=
  (.aft (.reg (.op (.mv 59 (.t 11)) none <| .op (.bin 60 .add (.t 59) (.c ⟨.int .i64, ((1 : Int) : Int)⟩)) none <| .op (.mv 11 (.t 60)) none <| .nil)) [.keep [0, 7, 8, 10, 11]])
noncomputable abbrev law08_CmlCuts.c4 (n : Nat) : XC := law08_CmlCuts.d4 n
theorem law08_CmlCuts.qb3_0 (Kr3 : St → Option law08_CmlCuts.R) (kr3 : (List DRecord) → (List DRecord) → (List DRecord) → (List DOp) → Int → Option Bool) (hK3 : ∀ (x0 : List DRecord) (x7 : List DRecord) (x8 : List DRecord) (x10 : List DOp) (x11 : Int), Kr3 [(0, some ⟨.slB .U false TRecord, x0⟩), (7, some ⟨.slX .U TRecord, x7⟩), (8, some ⟨.slX .U TRecord, x8⟩), (10, some ⟨.slX .S TOp, x10⟩), (11, some ⟨.int .i64, x11⟩)] = kr3 x0 x7 x8 x10 x11) (x0 : List DRecord) (x7 : List DRecord) (x8 : List DRecord) (x10 : List DOp) (x11 : Int) : law08_CmlCuts.Kb3 Kr3 [(0, some ⟨.slB .U false TRecord, x0⟩), (7, some ⟨.slX .U TRecord, x7⟩), (8, some ⟨.slX .U TRecord, x8⟩), (10, some ⟨.slX .S TOp, x10⟩), (11, some ⟨.int .i64, x11⟩)] = kr3 x0 x7 x8 x10 x11 := (by kernel_rfl : _ = Kr3 [(0, some ⟨.slB .U false TRecord, x0⟩), (7, some ⟨.slX .U TRecord, x7⟩), (8, some ⟨.slX .U TRecord, x8⟩), (10, some ⟨.slX .S TOp, x10⟩), (11, some ⟨.int .i64, x11⟩)]).trans (hK3 x0 x7 x8 x10 x11)
noncomputable def law08_CmlCuts.j4 (n : Nat) (kr3 : (List DRecord) → (List DRecord) → (List DRecord) → (List DOp) → Int → Option Bool) (x0 : List DRecord) (x7 : List DRecord) (x8 : List DRecord) (x10 : List DOp) (x11 : Int) : Option Bool :=
  kr3 x0 x7 x8 x10 (IntKind.i64.wrap (x11 + (1 : Int)))
theorem law08_CmlCuts.w4 (n : Nat) (Kr3 : St → Option law08_CmlCuts.R) (x0 : List DRecord) (x7 : List DRecord) (x8 : List DRecord) (x10 : List DOp) (x11 : Int) (K2 : St → Option law08_CmlCuts.R) (Kb3 : St → Option law08_CmlCuts.R) : ev (law08_CmlCuts.d4 n) [(0, some ⟨.slB .U false TRecord, x0⟩), (7, some ⟨.slX .U TRecord, x7⟩), (8, some ⟨.slX .U TRecord, x8⟩), (10, some ⟨.slX .S TOp, x10⟩), (11, some ⟨.int .i64, x11⟩)] (⟨retK law08_CmlCuts.rs law08_CmlCuts.ps law08_CmlCuts.r, [(2, K2)]⟩ : Ks law08_CmlCuts.R) Kb3 =
  (Kb3 [(0, some ⟨.slB .U false TRecord, x0⟩), (7, some ⟨.slX .U TRecord, x7⟩), (8, some ⟨.slX .U TRecord, x8⟩), (10, some ⟨.slX .S TOp, x10⟩), (11, some ⟨.int .i64, (IntKind.i64.wrap (x11 + (1 : Int)))⟩)] : Option law08_CmlCuts.R) := by kernel_rfl
theorem law08_CmlCuts.s4 (n : Nat) (Kr3 : St → Option law08_CmlCuts.R) (kr3 : (List DRecord) → (List DRecord) → (List DRecord) → (List DOp) → Int → Option Bool) (hK3 : ∀ (x0 : List DRecord) (x7 : List DRecord) (x8 : List DRecord) (x10 : List DOp) (x11 : Int), Kr3 [(0, some ⟨.slB .U false TRecord, x0⟩), (7, some ⟨.slX .U TRecord, x7⟩), (8, some ⟨.slX .U TRecord, x8⟩), (10, some ⟨.slX .S TOp, x10⟩), (11, some ⟨.int .i64, x11⟩)] = kr3 x0 x7 x8 x10 x11) (x0 : List DRecord) (x7 : List DRecord) (x8 : List DRecord) (x10 : List DOp) (x11 : Int) : ev (law08_CmlCuts.c4 n) [(0, some ⟨.slB .U false TRecord, x0⟩), (7, some ⟨.slX .U TRecord, x7⟩), (8, some ⟨.slX .U TRecord, x8⟩), (10, some ⟨.slX .S TOp, x10⟩), (11, some ⟨.int .i64, x11⟩)] (⟨retK law08_CmlCuts.rs law08_CmlCuts.ps law08_CmlCuts.r, [(2, (law08_CmlCuts.K2 n))]⟩ : Ks law08_CmlCuts.R) (law08_CmlCuts.Kb3 Kr3) = law08_CmlCuts.j4 n kr3 x0 x7 x8 x10 x11 := (law08_CmlCuts.w4 n Kr3 x0 x7 x8 x10 x11 (law08_CmlCuts.K2 n) (law08_CmlCuts.Kb3 Kr3)).trans (by simp -implicitDefEqProofs only [law08_CmlCuts.j4, law08_CmlCuts.qb3_0 Kr3 kr3 hK3] <;> kernel_rfl)
noncomputable def law08_CmlCuts.H4 (n : Nat) (K2 : St → Option law08_CmlCuts.R) (Kb3 : St → Option law08_CmlCuts.R) (X : XC) : St → Option law08_CmlCuts.R := fun st => ghK [.keep [0, 7, 8, 10, 11]] st fun st => ev X st (⟨retK law08_CmlCuts.rs law08_CmlCuts.ps law08_CmlCuts.r, [(2, K2)]⟩ : Ks law08_CmlCuts.R) Kb3
noncomputable abbrev law08_CmlCuts.K4 (n : Nat) (Kr3 : St → Option law08_CmlCuts.R) : St → Option law08_CmlCuts.R := law08_CmlCuts.H4 n (law08_CmlCuts.K2 n) (law08_CmlCuts.Kb3 Kr3) (law08_CmlCuts.c4 n)
noncomputable def law08_CmlCuts.db3 (n : Nat) (X4 : XC) : XC :=
  (.aft (.seq (.seq (.reg (.op (.mv 55 (.t 11)) none <| .op (.mv 56 (.t 0)) none <| .op (.len 57 (.t 56) false) none <| .op (.bin 58 .lss (.t 55) (.t 57)) none <| .nil)) <|
  (.cond (.t 58)
  .skip
  (.pre [.keep [0, 7, 8, 10]] (.exit 2)))) <|
  (.seq (.aft (.block 3 (.seq (.regD (.op (.mv 61 (.t 11)) (some ([11, 61], [61])) <| .op (.bor 62 10) (some ([10, 62], [62])) <| .op (.len 63 (.t 62) false) (some ([10, 62, 63], [63])) <| .op (.bin 64 .geq (.t 61) (.t 63)) (some ([61, 63, 64], [64])) <| .op (.mv 65 (.t 64)) (some ([64, 65], [65])) <| .grp 65 false (.op (.bor 66 10) (some ([10, 65, 66], [66])) <| .op (.mv 67 (.t 11)) (some ([11, 65, 67], [67])) <| .op (.idxA 68 (.t 66) (.t 67) 8 0) (some ([10, 65, 66, 67, 68], [68])) <| .op (.ld 69 68 8 true) (some ([10, 65, 68, 69], [69])) <| .op (.mv 70 (.t 0)) (some ([0, 65, 70], [70])) <| .op (.mv 71 (.t 11)) (some ([11, 65, 71], [71])) <| .op (.idxA 72 (.t 70) (.t 71) 9 0) (some ([65, 70, 71, 72], [72])) <| .op (.fa 73 72 0 0) (some ([65, 72, 73], [73])) <| .op (.ld 74 73 8 true) (some ([65, 73, 74], [74])) <| .op (.eqs 75 true (.t 69) (.t 74) TOp) (some ([65, 69, 74, 75], [75])) <| .nil) 75 76 [66, 67, 68, 69, 70, 71, 72, 73, 74, 75] <| .nil)) <|
  (.cond (.t 76)
  (.seq (.pre [.keep []] (.reg (.op (.mv 6 (.c ⟨.bool, (false : Bool)⟩)) none <| .nil))) <|
  .ret)
  .skip))) [.keep [0, 7, 8, 10, 11]]) X4)) [.keep [0, 7, 8, 10, 11]])
noncomputable abbrev law08_CmlCuts.cb3 (n : Nat) : XC := law08_CmlCuts.db3 n (law08_CmlCuts.c4 n)
theorem law08_CmlCuts.q2_0_r (n : Nat) (X : XC) (x0 : List DRecord) (x7 : List DRecord) (x8 : List DRecord) (x10 : List DOp) : law08_CmlCuts.H2 n X [(0, some ⟨.slB .U false TRecord, x0⟩), (7, some ⟨.slX .U TRecord, x7⟩), (8, some ⟨.slX .U TRecord, x8⟩), (10, some ⟨.slX .S TOp, x10⟩)] = (ev X [(0, some ⟨.slB .U false TRecord, x0⟩), (7, some ⟨.slX .U TRecord, x7⟩), (8, some ⟨.slX .U TRecord, x8⟩), (10, some ⟨.slX .S TOp, x10⟩)] (⟨retK law08_CmlCuts.rs law08_CmlCuts.ps law08_CmlCuts.r, []⟩ : Ks law08_CmlCuts.R) (retK law08_CmlCuts.rs law08_CmlCuts.ps law08_CmlCuts.r) : Option law08_CmlCuts.R) := by kernel_rfl
theorem law08_CmlCuts.q2_0 (n : Nat) (x0 : List DRecord) (x7 : List DRecord) (x8 : List DRecord) (x10 : List DOp) : law08_CmlCuts.K2 n [(0, some ⟨.slB .U false TRecord, x0⟩), (7, some ⟨.slX .U TRecord, x7⟩), (8, some ⟨.slX .U TRecord, x8⟩), (10, some ⟨.slX .S TOp, x10⟩)] = law08_CmlCuts.j2 n x0 x7 x8 x10 := (law08_CmlCuts.q2_0_r n (law08_CmlCuts.c2 n) x0 x7 x8 x10).trans (law08_CmlCuts.s2 n x0 x7 x8 x10)
noncomputable def law08_CmlCuts.l3 (n : Nat) : Nat → (List DRecord) → (List DRecord) → (List DRecord) → (List DOp) → Int → Option Bool
  | 0, _, _, _, _, _ => none
  | k + 1, x0, x7, x8, x10, x11 =>
  bif (decide (x11 < (x0.length : Int))) then ((bif (decide ((x10.length : Int) ≤ x11)) then some true else (idxK x10 x11 fun e2 => idxK x0 x11 fun e3 => some (!(eqI e2.1 e3.1.1 && (eqI e2.2.1 e3.1.2.1 && (eqI e2.2.2.1 e3.1.2.2.1 && (eqS e2.2.2.2.1 e3.1.2.2.2.1 && (eqI e2.2.2.2.2.1 e3.1.2.2.2.2.1 && (eqS e2.2.2.2.2.2.1 e3.1.2.2.2.2.2.1 && (eqI e2.2.2.2.2.2.2.1 e3.1.2.2.2.2.2.2.1 && (eqS e2.2.2.2.2.2.2.2.1 e3.1.2.2.2.2.2.2.2.1 && true))))))))))).bind fun g1 =>
  bif g1 then (some false)
  else (law08_CmlCuts.j4 n (law08_CmlCuts.l3 n k) x0 x7 x8 x10 x11))
  else (law08_CmlCuts.j2 n x0 x7 x8 x10)
theorem law08_CmlCuts.wb3 (n : Nat) (Kr3 : St → Option law08_CmlCuts.R) (x0 : List DRecord) (x7 : List DRecord) (x8 : List DRecord) (x10 : List DOp) (x11 : Int) (K2 : St → Option law08_CmlCuts.R) (X4 : XC) : ev (law08_CmlCuts.db3 n X4) (keepSt [(0, some ⟨.slB .U false TRecord, x0⟩), (7, some ⟨.slX .U TRecord, x7⟩), (8, some ⟨.slX .U TRecord, x8⟩), (10, some ⟨.slX .S TOp, x10⟩), (11, some ⟨.int .i64, x11⟩)] [0, 7, 8, 10, 11]) (⟨retK law08_CmlCuts.rs law08_CmlCuts.ps law08_CmlCuts.r, [(2, K2)]⟩ : Ks law08_CmlCuts.R) Kr3 =
  (bif (decide (x11 < (x0.length : Int))) then ((bif (decide ((x10.length : Int) ≤ x11)) then some true else (idxK x10 x11 fun e2 => idxK x0 x11 fun e3 => some (!(eqI e2.1 e3.1.1 && (eqI e2.2.1 e3.1.2.1 && (eqI e2.2.2.1 e3.1.2.2.1 && (eqS e2.2.2.2.1 e3.1.2.2.2.1 && (eqI e2.2.2.2.2.1 e3.1.2.2.2.2.1 && (eqS e2.2.2.2.2.2.1 e3.1.2.2.2.2.2.1 && (eqI e2.2.2.2.2.2.2.1 e3.1.2.2.2.2.2.2.1 && (eqS e2.2.2.2.2.2.2.2.1 e3.1.2.2.2.2.2.2.2.1 && true))))))))))).bind fun g1 =>
  bif g1 then (some false)
  else (ev X4 [(0, some ⟨.slB .U false TRecord, x0⟩), (7, some ⟨.slX .U TRecord, x7⟩), (8, some ⟨.slX .U TRecord, x8⟩), (10, some ⟨.slX .S TOp, x10⟩), (11, some ⟨.int .i64, x11⟩)] (⟨retK law08_CmlCuts.rs law08_CmlCuts.ps law08_CmlCuts.r, [(2, K2)]⟩ : Ks law08_CmlCuts.R) (law08_CmlCuts.Kb3 Kr3)))
  else (K2 [(0, some ⟨.slB .U false TRecord, x0⟩), (7, some ⟨.slX .U TRecord, x7⟩), (8, some ⟨.slX .U TRecord, x8⟩), (10, some ⟨.slX .S TOp, x10⟩)]) : Option law08_CmlCuts.R) := by kernel_rfl
theorem law08_CmlCuts.l3_ok (n : Nat) (k : Nat) : ∀ (x0 : List DRecord) (x7 : List DRecord) (x8 : List DRecord) (x10 : List DOp) (x11 : Int), loopEv [0, 7, 8, 10, 11] (fun s K => ev (law08_CmlCuts.cb3 n) s (⟨retK law08_CmlCuts.rs law08_CmlCuts.ps law08_CmlCuts.r, [(2, (law08_CmlCuts.K2 n))]⟩ : Ks law08_CmlCuts.R) K) k [(0, some ⟨.slB .U false TRecord, x0⟩), (7, some ⟨.slX .U TRecord, x7⟩), (8, some ⟨.slX .U TRecord, x8⟩), (10, some ⟨.slX .S TOp, x10⟩), (11, some ⟨.int .i64, x11⟩)] = law08_CmlCuts.l3 n k x0 x7 x8 x10 x11 := by
  induction k with
  | zero => intros; rfl
  | succ k ih =>
    intro x0 x7 x8 x10 x11
    exact (law08_CmlCuts.wb3 n (fun st => loopEv [0, 7, 8, 10, 11] (fun s K => ev (law08_CmlCuts.cb3 n) s (⟨retK law08_CmlCuts.rs law08_CmlCuts.ps law08_CmlCuts.r, [(2, (law08_CmlCuts.K2 n))]⟩ : Ks law08_CmlCuts.R) K) k st) x0 x7 x8 x10 x11 (law08_CmlCuts.K2 n) (law08_CmlCuts.c4 n)).trans (by simp -implicitDefEqProofs only [law08_CmlCuts.l3, law08_CmlCuts.s4 n (fun st => loopEv [0, 7, 8, 10, 11] (fun s K => ev (law08_CmlCuts.cb3 n) s (⟨retK law08_CmlCuts.rs law08_CmlCuts.ps law08_CmlCuts.r, [(2, (law08_CmlCuts.K2 n))]⟩ : Ks law08_CmlCuts.R) K) k st) (law08_CmlCuts.l3 n k) ih, law08_CmlCuts.q2_0 n] <;> kernel_rfl)
noncomputable def law08_CmlCuts.d1 (n : Nat) (X2 Y3 : XC) : XC :=
  (.seq (.reg (.op (.mv 53 (.t 0)) none <| .op (.call (some 54) (cml_Ops.sp n) [.v (.t 53)]) none <| .op (.take 10 54) none <| .nil)) <|
  (.seq (.aft (.seq (.reg (.op (.mv 11 (.c ⟨.int .i64, ((0 : Int) : Int)⟩)) none <| .nil)) <|
  (.block 2 (.pre [.keep [0, 7, 8, 10, 11]] (.loop n [0, 7, 8, 10, 11] Y3)))) [.keep [0, 7, 8, 10]]) X2))
noncomputable abbrev law08_CmlCuts.c1 (n : Nat) : XC := law08_CmlCuts.d1 n (law08_CmlCuts.c2 n) (law08_CmlCuts.cb3 n)
noncomputable def law08_CmlCuts.j1 (n : Nat) (x0 : List DRecord) (x7 : List DRecord) (x8 : List DRecord) : Option Bool :=
  (cml_Ops.f n x0).bind fun r1 => law08_CmlCuts.l3 n n x0 x7 x8 r1 (0 : Int)
theorem law08_CmlCuts.w1 (n : Nat) (x0 : List DRecord) (x7 : List DRecord) (x8 : List DRecord) (X2 Y3 : XC) : ev (law08_CmlCuts.d1 n X2 Y3) [(0, some ⟨.slB .U false TRecord, x0⟩), (7, some ⟨.slX .U TRecord, x7⟩), (8, some ⟨.slX .U TRecord, x8⟩)] (⟨retK law08_CmlCuts.rs law08_CmlCuts.ps law08_CmlCuts.r, []⟩ : Ks law08_CmlCuts.R) (retK law08_CmlCuts.rs law08_CmlCuts.ps law08_CmlCuts.r) =
  ((cml_Ops.f n x0).bind fun r1 => loopEv [0, 7, 8, 10, 11] (fun s K => ev Y3 s (⟨retK law08_CmlCuts.rs law08_CmlCuts.ps law08_CmlCuts.r, [(2, (law08_CmlCuts.H2 n X2))]⟩ : Ks law08_CmlCuts.R) K) n [(0, some ⟨.slB .U false TRecord, x0⟩), (7, some ⟨.slX .U TRecord, x7⟩), (8, some ⟨.slX .U TRecord, x8⟩), (10, some ⟨.slX .S TOp, r1⟩), (11, some ⟨.int .i64, (0 : Int)⟩)] : Option law08_CmlCuts.R) := by kernel_rfl
theorem law08_CmlCuts.s1 (n : Nat) (x0 : List DRecord) (x7 : List DRecord) (x8 : List DRecord) : ev (law08_CmlCuts.c1 n) [(0, some ⟨.slB .U false TRecord, x0⟩), (7, some ⟨.slX .U TRecord, x7⟩), (8, some ⟨.slX .U TRecord, x8⟩)] (⟨retK law08_CmlCuts.rs law08_CmlCuts.ps law08_CmlCuts.r, []⟩ : Ks law08_CmlCuts.R) (retK law08_CmlCuts.rs law08_CmlCuts.ps law08_CmlCuts.r) = law08_CmlCuts.j1 n x0 x7 x8 := (law08_CmlCuts.w1 n x0 x7 x8 (law08_CmlCuts.c2 n) (law08_CmlCuts.cb3 n)).trans (by simp -implicitDefEqProofs only [law08_CmlCuts.j1, law08_CmlCuts.l3_ok n] <;> kernel_rfl)
noncomputable def law08_CmlCuts.H1 (n : Nat) (X : XC) : St → Option law08_CmlCuts.R := fun st => ghK [.keep [0, 7, 8]] st fun st => ev X st (⟨retK law08_CmlCuts.rs law08_CmlCuts.ps law08_CmlCuts.r, []⟩ : Ks law08_CmlCuts.R) (retK law08_CmlCuts.rs law08_CmlCuts.ps law08_CmlCuts.r)
noncomputable abbrev law08_CmlCuts.K1 (n : Nat) : St → Option law08_CmlCuts.R := law08_CmlCuts.H1 n (law08_CmlCuts.c1 n)
noncomputable def law08_CmlCuts.Kb5 (Kr5 : St → Option law08_CmlCuts.R) : St → Option law08_CmlCuts.R := fun st => ghK [.keep [0, 2, 7, 8, 9]] st Kr5
noncomputable def law08_CmlCuts.d6 (n : Nat) : XC :=
  (.aft (.reg (.op (.mv 38 (.t 9)) none <| .op (.bin 39 .add (.t 38) (.c ⟨.int .i64, ((1 : Int) : Int)⟩)) none <| .op (.mv 9 (.t 39)) none <| .nil)) [.keep [0, 2, 7, 8, 9]])
noncomputable abbrev law08_CmlCuts.c6 (n : Nat) : XC := law08_CmlCuts.d6 n
theorem law08_CmlCuts.qb5_0 (Kr5 : St → Option law08_CmlCuts.R) (kr5 : (List DRecord) → Int → (List DRecord) → (List DRecord) → Int → Option Bool) (hK5 : ∀ (x0 : List DRecord) (x2 : Int) (x7 : List DRecord) (x8 : List DRecord) (x9 : Int), Kr5 [(0, some ⟨.slB .U false TRecord, x0⟩), (2, some ⟨.int .u32, x2⟩), (7, some ⟨.slX .U TRecord, x7⟩), (8, some ⟨.slX .U TRecord, x8⟩), (9, some ⟨.int .i64, x9⟩)] = kr5 x0 x2 x7 x8 x9) (x0 : List DRecord) (x2 : Int) (x7 : List DRecord) (x8 : List DRecord) (x9 : Int) : law08_CmlCuts.Kb5 Kr5 [(0, some ⟨.slB .U false TRecord, x0⟩), (2, some ⟨.int .u32, x2⟩), (7, some ⟨.slX .U TRecord, x7⟩), (8, some ⟨.slX .U TRecord, x8⟩), (9, some ⟨.int .i64, x9⟩)] = kr5 x0 x2 x7 x8 x9 := (by kernel_rfl : _ = Kr5 [(0, some ⟨.slB .U false TRecord, x0⟩), (2, some ⟨.int .u32, x2⟩), (7, some ⟨.slX .U TRecord, x7⟩), (8, some ⟨.slX .U TRecord, x8⟩), (9, some ⟨.int .i64, x9⟩)]).trans (hK5 x0 x2 x7 x8 x9)
noncomputable def law08_CmlCuts.j6 (n : Nat) (kr5 : (List DRecord) → Int → (List DRecord) → (List DRecord) → Int → Option Bool) (x0 : List DRecord) (x2 : Int) (x7 : List DRecord) (x8 : List DRecord) (x9 : Int) : Option Bool :=
  kr5 x0 x2 x7 x8 (IntKind.i64.wrap (x9 + (1 : Int)))
theorem law08_CmlCuts.w6 (n : Nat) (Kr5 : St → Option law08_CmlCuts.R) (x0 : List DRecord) (x2 : Int) (x7 : List DRecord) (x8 : List DRecord) (x9 : Int) (K1 : St → Option law08_CmlCuts.R) (Kb5 : St → Option law08_CmlCuts.R) : ev (law08_CmlCuts.d6 n) [(0, some ⟨.slB .U false TRecord, x0⟩), (2, some ⟨.int .u32, x2⟩), (7, some ⟨.slX .U TRecord, x7⟩), (8, some ⟨.slX .U TRecord, x8⟩), (9, some ⟨.int .i64, x9⟩)] (⟨retK law08_CmlCuts.rs law08_CmlCuts.ps law08_CmlCuts.r, [(0, K1)]⟩ : Ks law08_CmlCuts.R) Kb5 =
  (Kb5 [(0, some ⟨.slB .U false TRecord, x0⟩), (2, some ⟨.int .u32, x2⟩), (7, some ⟨.slX .U TRecord, x7⟩), (8, some ⟨.slX .U TRecord, x8⟩), (9, some ⟨.int .i64, (IntKind.i64.wrap (x9 + (1 : Int)))⟩)] : Option law08_CmlCuts.R) := by kernel_rfl
theorem law08_CmlCuts.s6 (n : Nat) (Kr5 : St → Option law08_CmlCuts.R) (kr5 : (List DRecord) → Int → (List DRecord) → (List DRecord) → Int → Option Bool) (hK5 : ∀ (x0 : List DRecord) (x2 : Int) (x7 : List DRecord) (x8 : List DRecord) (x9 : Int), Kr5 [(0, some ⟨.slB .U false TRecord, x0⟩), (2, some ⟨.int .u32, x2⟩), (7, some ⟨.slX .U TRecord, x7⟩), (8, some ⟨.slX .U TRecord, x8⟩), (9, some ⟨.int .i64, x9⟩)] = kr5 x0 x2 x7 x8 x9) (x0 : List DRecord) (x2 : Int) (x7 : List DRecord) (x8 : List DRecord) (x9 : Int) : ev (law08_CmlCuts.c6 n) [(0, some ⟨.slB .U false TRecord, x0⟩), (2, some ⟨.int .u32, x2⟩), (7, some ⟨.slX .U TRecord, x7⟩), (8, some ⟨.slX .U TRecord, x8⟩), (9, some ⟨.int .i64, x9⟩)] (⟨retK law08_CmlCuts.rs law08_CmlCuts.ps law08_CmlCuts.r, [(0, (law08_CmlCuts.K1 n))]⟩ : Ks law08_CmlCuts.R) (law08_CmlCuts.Kb5 Kr5) = law08_CmlCuts.j6 n kr5 x0 x2 x7 x8 x9 := (law08_CmlCuts.w6 n Kr5 x0 x2 x7 x8 x9 (law08_CmlCuts.K1 n) (law08_CmlCuts.Kb5 Kr5)).trans (by simp -implicitDefEqProofs only [law08_CmlCuts.j6, law08_CmlCuts.qb5_0 Kr5 kr5 hK5] <;> kernel_rfl)
noncomputable def law08_CmlCuts.H6 (n : Nat) (K1 : St → Option law08_CmlCuts.R) (Kb5 : St → Option law08_CmlCuts.R) (X : XC) : St → Option law08_CmlCuts.R := fun st => ghK [.keep [0, 2, 7, 8, 9]] st fun st => ev X st (⟨retK law08_CmlCuts.rs law08_CmlCuts.ps law08_CmlCuts.r, [(0, K1)]⟩ : Ks law08_CmlCuts.R) Kb5
noncomputable abbrev law08_CmlCuts.K6 (n : Nat) (Kr5 : St → Option law08_CmlCuts.R) : St → Option law08_CmlCuts.R := law08_CmlCuts.H6 n (law08_CmlCuts.K1 n) (law08_CmlCuts.Kb5 Kr5) (law08_CmlCuts.c6 n)
noncomputable def law08_CmlCuts.db5 (n : Nat) (X6 : XC) : XC :=
  (.aft (.seq (.seq (.reg (.op (.mv 34 (.t 9)) none <| .op (.mv 35 (.t 0)) none <| .op (.len 36 (.t 35) false) none <| .op (.bin 37 .lss (.t 34) (.t 36)) none <| .nil)) <|
  (.cond (.t 37)
  .skip
  (.pre [.keep [0, 7, 8]] (.exit 0)))) <|
  (.seq (.aft (.block 1 (.seq (.regD (.op (.mv 40 (.t 0)) (some ([0, 40], [40])) <| .op (.mv 41 (.t 9)) (some ([9, 41], [41])) <| .op (.idxA 42 (.t 40) (.t 41) 9 0) (some ([40, 41, 42], [42])) <| .op (.ld 43 42 9 true) (some ([42, 43], [43])) <| .op (.mv 44 (.t 2)) (some ([2, 44], [44])) <| .op (.call (some 45) (cml_Touches.sp n) [.v (.t 43), .v (.t 44)]) (some ([43, 44, 45], [45])) <| .op (.mv 46 (.t 0)) (some ([0, 46], [46])) <| .op (.mv 47 (.t 9)) (some ([9, 47], [47])) <| .op (.idxA 48 (.t 46) (.t 47) 9 0) (some ([46, 47, 48], [48])) <| .op (.ld 49 48 9 true) (some ([48, 49], [49])) <| .op (.mv 50 (.t 2)) (some ([2, 50], [50])) <| .op (.call (some 51) (r08_Touches.sp n) [.v (.t 49), .v (.t 50)]) (some ([49, 50, 51], [51])) <| .op (.eqs 52 true (.t 45) (.t 51) .bool) (some ([45, 51, 52], [52])) <| .nil)) <|
  (.cond (.t 52)
  (.seq (.pre [.keep []] (.reg (.op (.mv 6 (.c ⟨.bool, (false : Bool)⟩)) none <| .nil))) <|
  .ret)
  .skip))) [.keep [0, 2, 7, 8, 9]]) X6)) [.keep [0, 2, 7, 8, 9]])
noncomputable abbrev law08_CmlCuts.cb5 (n : Nat) : XC := law08_CmlCuts.db5 n (law08_CmlCuts.c6 n)
theorem law08_CmlCuts.q1_0_r (n : Nat) (X : XC) (x0 : List DRecord) (x7 : List DRecord) (x8 : List DRecord) : law08_CmlCuts.H1 n X [(0, some ⟨.slB .U false TRecord, x0⟩), (7, some ⟨.slX .U TRecord, x7⟩), (8, some ⟨.slX .U TRecord, x8⟩)] = (ev X [(0, some ⟨.slB .U false TRecord, x0⟩), (7, some ⟨.slX .U TRecord, x7⟩), (8, some ⟨.slX .U TRecord, x8⟩)] (⟨retK law08_CmlCuts.rs law08_CmlCuts.ps law08_CmlCuts.r, []⟩ : Ks law08_CmlCuts.R) (retK law08_CmlCuts.rs law08_CmlCuts.ps law08_CmlCuts.r) : Option law08_CmlCuts.R) := by kernel_rfl
theorem law08_CmlCuts.q1_0 (n : Nat) (x0 : List DRecord) (x7 : List DRecord) (x8 : List DRecord) : law08_CmlCuts.K1 n [(0, some ⟨.slB .U false TRecord, x0⟩), (7, some ⟨.slX .U TRecord, x7⟩), (8, some ⟨.slX .U TRecord, x8⟩)] = law08_CmlCuts.j1 n x0 x7 x8 := (law08_CmlCuts.q1_0_r n (law08_CmlCuts.c1 n) x0 x7 x8).trans (law08_CmlCuts.s1 n x0 x7 x8)
noncomputable def law08_CmlCuts.l5 (n : Nat) : Nat → (List DRecord) → Int → (List DRecord) → (List DRecord) → Int → Option Bool
  | 0, _, _, _, _, _ => none
  | k + 1, x0, x2, x7, x8, x9 =>
  bif (decide (x9 < (x0.length : Int))) then (idxK x0 x9 fun e1 => (cml_Touches.f n ((e1.1.1, e1.1.2.1, e1.1.2.2.1, e1.1.2.2.2.1, e1.1.2.2.2.2.1, e1.1.2.2.2.2.2.1, e1.1.2.2.2.2.2.2.1, e1.1.2.2.2.2.2.2.2.1, e1.1.2.2.2.2.2.2.2.2), e1.2.1, e1.2.2) x2).bind fun r2 => idxK x0 x9 fun e3 => (r08_Touches.f n ((e3.1.1, e3.1.2.1, e3.1.2.2.1, e3.1.2.2.2.1, e3.1.2.2.2.2.1, e3.1.2.2.2.2.2.1, e3.1.2.2.2.2.2.2.1, e3.1.2.2.2.2.2.2.2.1, e3.1.2.2.2.2.2.2.2.2), e3.2.1, e3.2.2) x2).bind fun r4 => bif (!(bbeq r2 r4)) then (some false)
  else (law08_CmlCuts.j6 n (law08_CmlCuts.l5 n k) x0 x2 x7 x8 x9))
  else (law08_CmlCuts.j1 n x0 x7 x8)
theorem law08_CmlCuts.wb5 (n : Nat) (Kr5 : St → Option law08_CmlCuts.R) (x0 : List DRecord) (x2 : Int) (x7 : List DRecord) (x8 : List DRecord) (x9 : Int) (K1 : St → Option law08_CmlCuts.R) (X6 : XC) : ev (law08_CmlCuts.db5 n X6) (keepSt [(0, some ⟨.slB .U false TRecord, x0⟩), (2, some ⟨.int .u32, x2⟩), (7, some ⟨.slX .U TRecord, x7⟩), (8, some ⟨.slX .U TRecord, x8⟩), (9, some ⟨.int .i64, x9⟩)] [0, 2, 7, 8, 9]) (⟨retK law08_CmlCuts.rs law08_CmlCuts.ps law08_CmlCuts.r, [(0, K1)]⟩ : Ks law08_CmlCuts.R) Kr5 =
  (bif (decide (x9 < (x0.length : Int))) then (idxK x0 x9 fun e1 => (cml_Touches.f n ((e1.1.1, e1.1.2.1, e1.1.2.2.1, e1.1.2.2.2.1, e1.1.2.2.2.2.1, e1.1.2.2.2.2.2.1, e1.1.2.2.2.2.2.2.1, e1.1.2.2.2.2.2.2.2.1, e1.1.2.2.2.2.2.2.2.2), e1.2.1, e1.2.2) x2).bind fun r2 => idxK x0 x9 fun e3 => (r08_Touches.f n ((e3.1.1, e3.1.2.1, e3.1.2.2.1, e3.1.2.2.2.1, e3.1.2.2.2.2.1, e3.1.2.2.2.2.2.1, e3.1.2.2.2.2.2.2.1, e3.1.2.2.2.2.2.2.2.1, e3.1.2.2.2.2.2.2.2.2), e3.2.1, e3.2.2) x2).bind fun r4 => bif (!(bbeq r2 r4)) then (some false)
  else (ev X6 [(0, some ⟨.slB .U false TRecord, x0⟩), (2, some ⟨.int .u32, x2⟩), (7, some ⟨.slX .U TRecord, x7⟩), (8, some ⟨.slX .U TRecord, x8⟩), (9, some ⟨.int .i64, x9⟩)] (⟨retK law08_CmlCuts.rs law08_CmlCuts.ps law08_CmlCuts.r, [(0, K1)]⟩ : Ks law08_CmlCuts.R) (law08_CmlCuts.Kb5 Kr5)))
  else (K1 [(0, some ⟨.slB .U false TRecord, x0⟩), (7, some ⟨.slX .U TRecord, x7⟩), (8, some ⟨.slX .U TRecord, x8⟩)]) : Option law08_CmlCuts.R) := by kernel_rfl
theorem law08_CmlCuts.l5_ok (n : Nat) (k : Nat) : ∀ (x0 : List DRecord) (x2 : Int) (x7 : List DRecord) (x8 : List DRecord) (x9 : Int), loopEv [0, 2, 7, 8, 9] (fun s K => ev (law08_CmlCuts.cb5 n) s (⟨retK law08_CmlCuts.rs law08_CmlCuts.ps law08_CmlCuts.r, [(0, (law08_CmlCuts.K1 n))]⟩ : Ks law08_CmlCuts.R) K) k [(0, some ⟨.slB .U false TRecord, x0⟩), (2, some ⟨.int .u32, x2⟩), (7, some ⟨.slX .U TRecord, x7⟩), (8, some ⟨.slX .U TRecord, x8⟩), (9, some ⟨.int .i64, x9⟩)] = law08_CmlCuts.l5 n k x0 x2 x7 x8 x9 := by
  induction k with
  | zero => intros; rfl
  | succ k ih =>
    intro x0 x2 x7 x8 x9
    exact (law08_CmlCuts.wb5 n (fun st => loopEv [0, 2, 7, 8, 9] (fun s K => ev (law08_CmlCuts.cb5 n) s (⟨retK law08_CmlCuts.rs law08_CmlCuts.ps law08_CmlCuts.r, [(0, (law08_CmlCuts.K1 n))]⟩ : Ks law08_CmlCuts.R) K) k st) x0 x2 x7 x8 x9 (law08_CmlCuts.K1 n) (law08_CmlCuts.c6 n)).trans (by simp -implicitDefEqProofs only [law08_CmlCuts.l5, law08_CmlCuts.s6 n (fun st => loopEv [0, 2, 7, 8, 9] (fun s K => ev (law08_CmlCuts.cb5 n) s (⟨retK law08_CmlCuts.rs law08_CmlCuts.ps law08_CmlCuts.r, [(0, (law08_CmlCuts.K1 n))]⟩ : Ks law08_CmlCuts.R) K) k st) (law08_CmlCuts.l5 n k) ih, law08_CmlCuts.q1_0 n] <;> kernel_rfl)
noncomputable def law08_CmlCuts.d (n : Nat) (X1 Y5 : XC) : XC :=
  (.seq (.reg (.op (.mv 6 (.c ⟨.bool, (false : Bool)⟩)) none <| .nil)) <|
  (.seq (.reg (.op (.mv 12 (.t 0)) none <| .op (.call (some 13) (law08_few.sp n) [.v (.t 12)]) none <| .op (.mv 0 (.t 13)) none <| .nil)) <|
  (.seq (.reg (.op (.mv 14 (.t 0)) none <| .op (.mv 15 (.t 1)) none <| .op (.call (some 16) (cml_Cut.sp n) [.v (.t 14), .v (.t 15)]) none <| .op (.mv 17 (.t 0)) none <| .op (.mv 18 (.t 1)) none <| .op (.call (some 19) (cml_Drop.sp n) [.v (.t 17), .v (.t 18)]) none <| .op (.take 7 16) none <| .op (.take 8 19) none <| .nil)) <|
  (.seq (.seq (.reg (.op (.bor 20 7) none <| .op (.mv 21 (.t 0)) none <| .op (.mv 22 (.t 1)) none <| .op (.call (some 23) (r08_Cut.sp n) [.v (.t 21), .v (.t 22)]) none <| .op (.call (some 24) (r08_Same.sp n) [.v (.t 20), .v (.t 23)]) none <| .op (.un 25 .not (.t 24)) none <| .op (.mv 26 (.t 25)) none <| .grp 26 false (.op (.bor 27 8) (some ([8, 26, 27], [27])) <| .op (.mv 28 (.t 0)) (some ([0, 26, 28], [28])) <| .op (.mv 29 (.t 1)) (some ([1, 26, 29], [29])) <| .op (.call (some 30) (r08_Drop.sp n) [.v (.t 28), .v (.t 29)]) (some ([26, 28, 29, 30], [30])) <| .op (.call (some 31) (r08_Same.sp n) [.v (.t 27), .v (.t 30)]) (some ([8, 26, 27, 30, 31], [31])) <| .op (.un 32 .not (.t 31)) (some ([26, 31, 32], [32])) <| .nil) 32 33 [27, 28, 29, 30, 31, 32] <| .nil)) <|
  (.cond (.t 33)
  (.seq (.pre [.keep []] (.reg (.op (.mv 6 (.c ⟨.bool, (false : Bool)⟩)) none <| .nil))) <|
  .ret)
  .skip)) <|
  (.seq (.aft (.seq (.pre [.keep [0, 2, 7, 8]] (.reg (.op (.mv 9 (.c ⟨.int .i64, ((0 : Int) : Int)⟩)) none <| .nil))) <|
  (.block 0 (.pre [.keep [0, 2, 7, 8, 9]] (.loop n [0, 2, 7, 8, 9] Y5)))) [.keep [0, 7, 8]]) X1)))))
noncomputable abbrev law08_CmlCuts.c (n : Nat) : XC := law08_CmlCuts.d n (law08_CmlCuts.c1 n) (law08_CmlCuts.cb5 n)
noncomputable def law08_CmlCuts.f (n : Nat) (a0 : List DRecord) (a1 : Int) (a2 : Int) : Option Bool :=
  (law08_few.f n a0).bind fun r1 => (cml_Cut.f n r1 a1).bind fun r2 => (cml_Drop.f n r1 a1).bind fun r3 => (r08_Cut.f n r1 a1).bind fun r4 => (r08_Same.f n r2 r4).bind fun r5 => (bif (!r5) then some true else ((r08_Drop.f n r1 a1).bind fun r7 => (r08_Same.f n r3 r7).bind fun r8 => some (!r8))).bind fun g6 =>
  bif g6 then (some false)
  else (law08_CmlCuts.l5 n n r1 a2 r2 r3 (0 : Int))
theorem law08_CmlCuts.w (n : Nat) (a0 : List DRecord) (a1 : Int) (a2 : Int) (X1 Y5 : XC) : evFn (law08_CmlCuts.d n X1 Y5) law08_CmlCuts.rs law08_CmlCuts.ps law08_CmlCuts.r (a0, a1, a2, ()) =
  ((law08_few.f n a0).bind fun r1 => (cml_Cut.f n r1 a1).bind fun r2 => (cml_Drop.f n r1 a1).bind fun r3 => (r08_Cut.f n r1 a1).bind fun r4 => (r08_Same.f n r2 r4).bind fun r5 => (bif (!r5) then some true else ((r08_Drop.f n r1 a1).bind fun r7 => (r08_Same.f n r3 r7).bind fun r8 => some (!r8))).bind fun g6 =>
  bif g6 then (some false)
  else (loopEv [0, 2, 7, 8, 9] (fun s K => ev Y5 s (⟨retK law08_CmlCuts.rs law08_CmlCuts.ps law08_CmlCuts.r, [(0, (law08_CmlCuts.H1 n X1))]⟩ : Ks law08_CmlCuts.R) K) n [(0, some ⟨.slB .U false TRecord, r1⟩), (2, some ⟨.int .u32, a2⟩), (7, some ⟨.slX .U TRecord, r2⟩), (8, some ⟨.slX .U TRecord, r3⟩), (9, some ⟨.int .i64, (0 : Int)⟩)]) : Option law08_CmlCuts.R) := by kernel_rfl
theorem law08_CmlCuts.ok (n : Nat) (a0 : List DRecord) (a1 : Int) (a2 : Int) : evFn (law08_CmlCuts.c n) law08_CmlCuts.rs law08_CmlCuts.ps law08_CmlCuts.r (a0, a1, a2, ()) = law08_CmlCuts.f n a0 a1 a2 := (law08_CmlCuts.w n a0 a1 a2 (law08_CmlCuts.c1 n) (law08_CmlCuts.cb5 n)).trans (by simp -implicitDefEqProofs only [law08_CmlCuts.f, law08_CmlCuts.l5_ok n] <;> kernel_rfl)
noncomputable def law08_CmlCuts.sp (n : Nat) : FSpec := { f := 8, ps := law08_CmlCuts.ps, r := law08_CmlCuts.r, run := fun x => law08_CmlCuts.f n x.1 x.2.1 x.2.2.1 }
theorem law08_CmlCuts.calls (n : Nat) : (law08_CmlCuts.c n).calls = [law08_few.sp n, cml_Cut.sp n, cml_Drop.sp n, r08_Cut.sp n, r08_Same.sp n, r08_Drop.sp n, r08_Same.sp n, cml_Touches.sp n, r08_Touches.sp n, cml_Ops.sp n, law08_live.sp n, cml_Same.sp n] := by kernel_rfl
theorem law08_CmlCuts.fits (n : Nat) : fnB tab hd Try.f8 (law08_CmlCuts.c n) law08_CmlCuts.rs (law08_CmlCuts.sp n).ps (law08_CmlCuts.sp n).r = true := by kernel_rfl
theorem law08_CmlCuts.sound (n : Nat) : Sound Try.prog (law08_CmlCuts.sp n) := by
  refine fnB_sound tabOk eqFacts mixed (fn := Try.f8) (c := law08_CmlCuts.c n) (rs := law08_CmlCuts.rs) (by kernel_rfl) ?_ (law08_CmlCuts.fits n) ?_
  · rw [law08_CmlCuts.calls]
    intro s hs
    simp only [List.mem_cons, List.not_mem_nil, or_false] at hs
    rcases hs with rfl | rfl | rfl | rfl | rfl | rfl | rfl | rfl | rfl | rfl | rfl | rfl
    · exact law08_few.meets n
    · exact cml_Cut.meets n
    · exact cml_Drop.meets n
    · exact r08_Cut.meets n
    · exact r08_Same.meets n
    · exact r08_Drop.meets n
    · exact r08_Same.meets n
    · exact cml_Touches.meets n
    · exact r08_Touches.meets n
    · exact cml_Ops.meets n
    · exact law08_live.meets n
    · exact cml_Same.meets n
  · rintro ⟨a0, a1, a2, ⟨⟩⟩ y h
    exact (law08_CmlCuts.ok n a0 a1 a2).trans h
theorem law08_CmlCuts.meets (n : Nat) : Meets Try.prog (law08_CmlCuts.sp n) := (law08_CmlCuts.sound n).meets
end Go.Proofs.Ytggidaedacngbaa.S
