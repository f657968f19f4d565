/- The functions of the seat: annotated code, shallow functions, and that each keeps its contract. Printed by pr.py. -/
import Derived.Test.YtfpmemeahnbmfaaSTab
import Derived.Test.YtfpmemeahnbmfaaSJn
namespace Go.Proofs.Ytfpmemeahnbmfaa.S
open Go Go.Proofs Go.Proofs.Bw
set_option maxRecDepth 100000
set_option linter.unusedVariables false
abbrev TboundsError : Ty := .pair (.int .i64) (.pair (.int .i64) (.pair .bool (.pair (.int .u8) .unit)))
abbrev DboundsError : Type := Int × Int × Bool × Int × Unit
abbrev TerrorAddressString : Ty := .pair .str (.pair (.int .u64) .unit)
abbrev DerrorAddressString : Type := (List Int) × Int × Unit
/-! backwater/path.Name -/
abbrev path_Name.ps : List (Ty × Bool) := [(.str, false)]
abbrev path_Name.r : Ty := .bool
abbrev path_Name.rs : List RV := [.t 2]
abbrev path_Name.R : Type := (rtOf path_Name.ps path_Name.r).den
noncomputable def path_Name.d1 (n : Nat) : XC :=
  (.seq (.reg (.op (.mv 2 (.c ⟨.bool, (true : Bool)⟩)) none <| .nil)) <|
  .ret)
noncomputable abbrev path_Name.c1 (n : Nat) : XC := path_Name.d1 n
noncomputable def path_Name.j1 (n : Nat)  : Option Bool :=
  some true
theorem path_Name.s1 (n : Nat)  : ev (path_Name.c1 n) [] (⟨retK path_Name.rs path_Name.ps path_Name.r, []⟩ : Ks path_Name.R) (retK path_Name.rs path_Name.ps path_Name.r) = path_Name.j1 n  := by kernel_rfl
noncomputable def path_Name.H1 (n : Nat) (X : XC) : St → Option path_Name.R := fun st => ghK [.keep []] st fun st => ev X st (⟨retK path_Name.rs path_Name.ps path_Name.r, []⟩ : Ks path_Name.R) (retK path_Name.rs path_Name.ps path_Name.r)
noncomputable abbrev path_Name.K1 (n : Nat) : St → Option path_Name.R := path_Name.H1 n (path_Name.c1 n)
noncomputable def path_Name.Kb2 (Kr2 : St → Option path_Name.R) : St → Option path_Name.R := fun st => ghK [.keep [23]] st Kr2
noncomputable def path_Name.db2 (n : Nat) : XC :=
  (.aft (.seq (.reg (.op (.nxt 24 23) none <| .op (.ext 25 24 0) none <| .nil)) <|
  (.seq (.cond (.t 25)
  .skip
  (.pre [.keep []] (.exit 0))) <|
  (.block 1 (.seq (.reg (.op (.ext 26 24 2) none <| .op (.mv 4 (.t 26)) none <| .nil)) <|
  (.seq (.reg (.op (.mv 27 (.t 4)) none <| .op (.bin 28 .or (.t 27) (.c ⟨.int .i32, ((32 : Int) : Int)⟩)) none <| .op (.mv 5 (.t 28)) none <| .nil)) <|
  (.seq (.reg (.op (.mv 29 (.t 4)) none <| .op (.mv 30 (.t 5)) none <| .op (.bin 31 .eql (.t 29) (.t 30)) none <| .op (.mv 32 (.t 31)) none <| .grp 32 true (.op (.mv 33 (.t 4)) (some ([4, 32, 33], [33])) <| .op (.bin 34 .geq (.t 33) (.c ⟨.int .i32, ((97 : Int) : Int)⟩)) (some ([32, 33, 34], [34])) <| .nil) 34 35 [33, 34] <| .op (.mv 36 (.t 35)) none <| .grp 36 true (.op (.mv 37 (.t 4)) (some ([4, 36, 37], [37])) <| .op (.bin 38 .leq (.t 37) (.c ⟨.int .i32, ((122 : Int) : Int)⟩)) (some ([36, 37, 38], [38])) <| .nil) 38 39 [37, 38] <| .op (.mv 6 (.t 39)) none <| .nil)) <|
  (.seq (.pre [.keep [4, 6, 23]] (.reg (.op (.mv 40 (.t 6)) none <| .op (.un 41 .not (.t 40)) none <| .op (.mv 42 (.t 41)) none <| .grp 42 true (.op (.mv 43 (.t 4)) (some ([4, 42, 43], [43])) <| .op (.bin 44 .lss (.t 43) (.c ⟨.int .i32, ((48 : Int) : Int)⟩)) (some ([42, 43, 44], [44])) <| .op (.mv 45 (.t 44)) (some ([42, 44, 45], [45])) <| .grp 45 false (.op (.mv 46 (.t 4)) (some ([4, 45, 46], [46])) <| .op (.bin 47 .gtr (.t 46) (.c ⟨.int .i32, ((57 : Int) : Int)⟩)) (some ([45, 46, 47], [47])) <| .nil) 47 48 [46, 47] <| .nil) 48 49 [43, 44, 45, 46, 47, 48] <| .op (.mv 50 (.t 49)) none <| .grp 50 true (.op (.mv 51 (.t 4)) (some ([4, 50, 51], [51])) <| .op (.bin 52 .neq (.t 51) (.c ⟨.int .i32, ((46 : Int) : Int)⟩)) (some ([50, 51, 52], [52])) <| .nil) 52 53 [51, 52] <| .op (.mv 54 (.t 53)) none <| .grp 54 true (.op (.mv 55 (.t 4)) (some ([4, 54, 55], [55])) <| .op (.bin 56 .neq (.t 55) (.c ⟨.int .i32, ((45 : Int) : Int)⟩)) (some ([54, 55, 56], [56])) <| .nil) 56 57 [55, 56] <| .op (.mv 58 (.t 57)) none <| .grp 58 true (.op (.mv 59 (.t 4)) (some ([4, 58, 59], [59])) <| .op (.bin 60 .neq (.t 59) (.c ⟨.int .i32, ((95 : Int) : Int)⟩)) (some ([58, 59, 60], [60])) <| .nil) 60 61 [59, 60] <| .nil))) <|
  (.cond (.t 61)
  (.seq (.pre [.keep []] (.reg (.op (.mv 2 (.c ⟨.bool, (false : Bool)⟩)) none <| .nil))) <|
  .ret)
  .skip)))))))) [.keep [23]])
noncomputable abbrev path_Name.cb2 (n : Nat) : XC := path_Name.db2 n
theorem path_Name.q1_0_r (n : Nat) (X : XC)  : path_Name.H1 n X [] = (ev X [] (⟨retK path_Name.rs path_Name.ps path_Name.r, []⟩ : Ks path_Name.R) (retK path_Name.rs path_Name.ps path_Name.r) : Option path_Name.R) := by kernel_rfl
theorem path_Name.q1_0 (n : Nat)  : path_Name.K1 n [] = path_Name.j1 n  := (path_Name.q1_0_r n (path_Name.c1 n) ).trans (path_Name.s1 n )
noncomputable def path_Name.l2 (n : Nat) : Nat → (List Int × Int) → Option Bool
  | 0, _ => none
  | k + 1, x23 =>
  bif decide (x23.2 < (x23.1.length : Int)) then ((bif (decide ((decL x23.1 x23.2).1 = (ior IntKind.i32 (decL x23.1 x23.2).1 (32 : Int)))) then (some (decide ((97 : Int) ≤ (decL x23.1 x23.2).1))) else some false).bind fun g1 =>
  (bif g1 then (some (decide ((decL x23.1 x23.2).1 ≤ (122 : Int)))) else some false).bind fun g2 =>
  (bif (!g2) then ((bif (decide ((decL x23.1 x23.2).1 < (48 : Int))) then some true else (some (decide ((57 : Int) < (decL x23.1 x23.2).1)))).bind fun g4 =>
  some g4) else some false).bind fun g3 =>
  (bif g3 then (some (!decide ((decL x23.1 x23.2).1 = (46 : Int)))) else some false).bind fun g5 =>
  (bif g5 then (some (!decide ((decL x23.1 x23.2).1 = (45 : Int)))) else some false).bind fun g6 =>
  (bif g6 then (some (!decide ((decL x23.1 x23.2).1 = (95 : Int)))) else some false).bind fun g7 =>
  bif g7 then (some false)
  else (path_Name.l2 n k (x23.1, (x23.2 + (decL x23.1 x23.2).2))))
  else (path_Name.j1 n )
theorem path_Name.wb2 (n : Nat) (Kr2 : St → Option path_Name.R) (x23 : List Int × Int) (K1 : St → Option path_Name.R) : ev (path_Name.db2 n) (keepSt [(23, some ⟨.siter, x23⟩)] [23]) (⟨retK path_Name.rs path_Name.ps path_Name.r, [(0, K1)]⟩ : Ks path_Name.R) Kr2 =
  (bif decide (x23.2 < (x23.1.length : Int)) then ((bif (decide ((decL x23.1 x23.2).1 = (ior IntKind.i32 (decL x23.1 x23.2).1 (32 : Int)))) then (some (decide ((97 : Int) ≤ (decL x23.1 x23.2).1))) else some false).bind fun g1 =>
  (bif g1 then (some (decide ((decL x23.1 x23.2).1 ≤ (122 : Int)))) else some false).bind fun g2 =>
  (bif (!g2) then ((bif (decide ((decL x23.1 x23.2).1 < (48 : Int))) then some true else (some (decide ((57 : Int) < (decL x23.1 x23.2).1)))).bind fun g4 =>
  some g4) else some false).bind fun g3 =>
  (bif g3 then (some (!decide ((decL x23.1 x23.2).1 = (46 : Int)))) else some false).bind fun g5 =>
  (bif g5 then (some (!decide ((decL x23.1 x23.2).1 = (45 : Int)))) else some false).bind fun g6 =>
  (bif g6 then (some (!decide ((decL x23.1 x23.2).1 = (95 : Int)))) else some false).bind fun g7 =>
  bif g7 then (some false)
  else (Kr2 [(23, some ⟨.siter, ((x23.1, (x23.2 + (decL x23.1 x23.2).2)) : List Int × Int)⟩)]))
  else (K1 []) : Option path_Name.R) := by kernel_rfl
theorem path_Name.l2_ok (n : Nat) (k : Nat) : ∀ (x23 : List Int × Int), loopEv [23] (fun s K => ev (path_Name.cb2 n) s (⟨retK path_Name.rs path_Name.ps path_Name.r, [(0, (path_Name.K1 n))]⟩ : Ks path_Name.R) K) k [(23, some ⟨.siter, x23⟩)] = path_Name.l2 n k x23 := by
  induction k with
  | zero => intros; rfl
  | succ k ih =>
    intro x23
    exact (path_Name.wb2 n (fun st => loopEv [23] (fun s K => ev (path_Name.cb2 n) s (⟨retK path_Name.rs path_Name.ps path_Name.r, [(0, (path_Name.K1 n))]⟩ : Ks path_Name.R) K) k st) x23 (path_Name.K1 n)).trans (by simp only [path_Name.l2, ih, path_Name.q1_0 n] <;> kernel_rfl)
noncomputable def path_Name.d (n : Nat) (X1 Y2 : XC) : XC :=
  (.seq (.reg (.op (.mv 2 (.c ⟨.bool, (false : Bool)⟩)) none <| .nil)) <|
  (.seq (.seq (.reg (.op (.mv 7 (.t 0)) none <| .op (.bin 8 .eql (.t 7) (.c ⟨.str, (([] : List Int) : List Int)⟩)) none <| .op (.mv 9 (.t 8)) none <| .grp 9 false (.op (.mv 10 (.t 0)) (some ([0, 9, 10], [10])) <| .op (.len 11 (.t 10) true) (some ([9, 10, 11], [11])) <| .op (.bin 12 .gtr (.t 11) (.c ⟨.int .i64, ((12 : Int) : Int)⟩)) (some ([9, 11, 12], [12])) <| .nil) 12 13 [10, 11, 12] <| .op (.mv 14 (.t 13)) none <| .grp 14 false (.op (.mv 15 (.t 0)) (some ([0, 14, 15], [15])) <| .op (.bin 16 .eql (.t 15) (.c ⟨.str, (([46] : List Int) : List Int)⟩)) (some ([14, 15, 16], [16])) <| .nil) 16 17 [15, 16] <| .op (.mv 18 (.t 17)) none <| .grp 18 false (.op (.mv 19 (.t 0)) (some ([0, 18, 19], [19])) <| .op (.bin 20 .eql (.t 19) (.c ⟨.str, (([46, 46] : List Int) : List Int)⟩)) (some ([18, 19, 20], [20])) <| .nil) 20 21 [19, 20] <| .nil)) <|
  (.cond (.t 21)
  (.seq (.reg (.op (.mv 2 (.c ⟨.bool, (false : Bool)⟩)) none <| .nil)) <|
  .ret)
  .skip)) <|
  (.seq (.aft (.seq (.reg (.op (.mv 22 (.t 0)) none <| .op (.rng 23 (.t 22)) none <| .nil)) <|
  (.block 0 (.pre [.keep [23]] (.loop n [23] Y2)))) [.keep []]) X1)))
noncomputable abbrev path_Name.c (n : Nat) : XC := path_Name.d n (path_Name.c1 n) (path_Name.cb2 n)
noncomputable def path_Name.f (n : Nat) (a0 : List Int) : Option Bool :=
  (bif (decide (a0 = ([] : List Int))) then some true else (some (decide ((12 : Int) < (a0.length : Int))))).bind fun g1 =>
  (bif g1 then some true else (some (decide (a0 = ([46] : List Int))))).bind fun g2 =>
  (bif g2 then some true else (some (decide (a0 = ([46, 46] : List Int))))).bind fun g3 =>
  bif g3 then (some false)
  else (path_Name.l2 n n (a0, (0 : Int)))
theorem path_Name.w (n : Nat) (a0 : List Int) (X1 Y2 : XC) : evFn (path_Name.d n X1 Y2) path_Name.rs path_Name.ps path_Name.r (a0, ()) =
  ((bif (decide (a0 = ([] : List Int))) then some true else (some (decide ((12 : Int) < (a0.length : Int))))).bind fun g1 =>
  (bif g1 then some true else (some (decide (a0 = ([46] : List Int))))).bind fun g2 =>
  (bif g2 then some true else (some (decide (a0 = ([46, 46] : List Int))))).bind fun g3 =>
  bif g3 then (some false)
  else (loopEv [23] (fun s K => ev Y2 s (⟨retK path_Name.rs path_Name.ps path_Name.r, [(0, (path_Name.H1 n X1))]⟩ : Ks path_Name.R) K) n [(23, some ⟨.siter, ((a0, (0 : Int)) : List Int × Int)⟩)]) : Option path_Name.R) := by kernel_rfl
theorem path_Name.ok (n : Nat) (a0 : List Int) : evFn (path_Name.c n) path_Name.rs path_Name.ps path_Name.r (a0, ()) = path_Name.f n a0 := (path_Name.w n a0 (path_Name.c1 n) (path_Name.cb2 n)).trans (by simp only [path_Name.f, path_Name.l2_ok n] <;> kernel_rfl)
noncomputable def path_Name.sp (n : Nat) : FSpec := { f := 15, ps := path_Name.ps, r := path_Name.r, run := fun x => path_Name.f n x.1 }
theorem path_Name.calls (n : Nat) : (path_Name.c n).calls = [] := by kernel_rfl
theorem path_Name.fits (n : Nat) : fnB tab hd Try.f15 (path_Name.c n) path_Name.rs (path_Name.sp n).ps (path_Name.sp n).r = true := by kernel_rfl
theorem path_Name.sound (n : Nat) : Sound Try.prog (path_Name.sp n) := by
  refine fnB_sound tabOk eqFacts mixed (fn := Try.f15) (c := path_Name.c n) (rs := path_Name.rs) (by kernel_rfl) ?_ (path_Name.fits n) ?_
  · rw [path_Name.calls]
    intro s hs; cases hs
  · rintro ⟨a0, ⟨⟩⟩ y h
    exact (path_Name.ok n a0).trans h
theorem path_Name.meets (n : Nat) : Meets Try.prog (path_Name.sp n) := (path_Name.sound n).meets
/-! strings.Join: by the model -/
noncomputable def strings_Join.f (n : Nat) (a0 : List (List Int)) (a1 : List Int) : Option (List Int) := joinK a0 a1
noncomputable def strings_Join.sp (n : Nat) : FSpec := joinSp 19
theorem strings_Join.meets (n : Nat) : Meets Try.prog (strings_Join.sp n) := join_meets_seat
/-! backwater/path.Join -/
abbrev path_Join.ps : List (Ty × Bool) := [(.slB .U false .str, false)]
abbrev path_Join.r : Ty := .tup (.pair .str (.pair (.int .i64) .unit))
abbrev path_Join.rs : List RV := [.t 2, .t 3]
abbrev path_Join.R : Type := (rtOf path_Join.ps path_Join.r).den
noncomputable def path_Join.d1 (n : Nat) : XC :=
  (.seq (.reg (.op (.mv 24 (.t 0)) none <| .op (.call (some 25) (strings_Join.sp n) [.v (.t 24), .v (.c ⟨.str, (([47] : List Int) : List Int)⟩)]) none <| .op (.bin 26 .add (.c ⟨.str, (([47] : List Int) : List Int)⟩) (.t 25)) none <| .op (.mv 2 (.t 26)) none <| .op (.mv 3 (.c ⟨.int .i64, ((0 : Int) : Int)⟩)) none <| .nil)) <|
  .ret)
noncomputable abbrev path_Join.c1 (n : Nat) : XC := path_Join.d1 n
noncomputable def path_Join.j1 (n : Nat) (x0 : List (List Int)) : Option ((List Int) × Int × Unit) :=
  (strings_Join.f n x0 ([47] : List Int)).bind fun r1 => leK (([47] : List Int).length + r1.length) maxLen (some ((([47] : List Int) ++ r1), (0 : Int), ()))
theorem path_Join.s1 (n : Nat) (x0 : List (List Int)) : ev (path_Join.c1 n) [(0, some ⟨.slB .U false .str, x0⟩)] (⟨retK path_Join.rs path_Join.ps path_Join.r, []⟩ : Ks path_Join.R) (retK path_Join.rs path_Join.ps path_Join.r) = path_Join.j1 n x0 := by kernel_rfl
noncomputable def path_Join.H1 (n : Nat) (X : XC) : St → Option path_Join.R := fun st => ghK [.keep [0]] st fun st => ev X st (⟨retK path_Join.rs path_Join.ps path_Join.r, []⟩ : Ks path_Join.R) (retK path_Join.rs path_Join.ps path_Join.r)
noncomputable abbrev path_Join.K1 (n : Nat) : St → Option path_Join.R := path_Join.H1 n (path_Join.c1 n)
noncomputable def path_Join.Kb2 (Kr2 : St → Option path_Join.R) : St → Option path_Join.R := fun st => ghK [.keep [0, 4, 7, 8, 9]] st Kr2
noncomputable def path_Join.d3 (n : Nat) : XC :=
  (.aft (.reg (.op (.bin 23 .add (.t 9) (.c ⟨.int .i64, ((1 : Int) : Int)⟩)) none <| .op (.mv 9 (.t 23)) none <| .nil)) [.keep [0, 4, 7, 8, 9]])
noncomputable abbrev path_Join.c3 (n : Nat) : XC := path_Join.d3 n
theorem path_Join.qb2_0 (Kr2 : St → Option path_Join.R) (kr2 : (List (List Int)) → Int → (List (List Int)) → Int → Int → Option ((List Int) × Int × Unit)) (hK2 : ∀ (x0 : List (List Int)) (x4 : Int) (x7 : List (List Int)) (x8 : Int) (x9 : Int), Kr2 [(0, some ⟨.slB .U false .str, x0⟩), (4, some ⟨.int .i64, x4⟩), (7, some ⟨.slB .U false .str, x7⟩), (8, some ⟨.int .i64, x8⟩), (9, some ⟨.int .i64, x9⟩)] = kr2 x0 x4 x7 x8 x9) (x0 : List (List Int)) (x4 : Int) (x7 : List (List Int)) (x8 : Int) (x9 : Int) : path_Join.Kb2 Kr2 [(0, some ⟨.slB .U false .str, x0⟩), (4, some ⟨.int .i64, x4⟩), (7, some ⟨.slB .U false .str, x7⟩), (8, some ⟨.int .i64, x8⟩), (9, some ⟨.int .i64, x9⟩)] = kr2 x0 x4 x7 x8 x9 := (by kernel_rfl : _ = Kr2 [(0, some ⟨.slB .U false .str, x0⟩), (4, some ⟨.int .i64, x4⟩), (7, some ⟨.slB .U false .str, x7⟩), (8, some ⟨.int .i64, x8⟩), (9, some ⟨.int .i64, x9⟩)]).trans (hK2 x0 x4 x7 x8 x9)
noncomputable def path_Join.j3 (n : Nat) (kr2 : (List (List Int)) → Int → (List (List Int)) → Int → Int → Option ((List Int) × Int × Unit)) (x0 : List (List Int)) (x4 : Int) (x7 : List (List Int)) (x8 : Int) (x9 : Int) : Option ((List Int) × Int × Unit) :=
  kr2 x0 x4 x7 x8 (IntKind.i64.wrap (x9 + (1 : Int)))
theorem path_Join.w3 (n : Nat) (Kr2 : St → Option path_Join.R) (x0 : List (List Int)) (x4 : Int) (x7 : List (List Int)) (x8 : Int) (x9 : Int) (K1 : St → Option path_Join.R) (Kb2 : St → Option path_Join.R) : ev (path_Join.d3 n) [(0, some ⟨.slB .U false .str, x0⟩), (4, some ⟨.int .i64, x4⟩), (7, some ⟨.slB .U false .str, x7⟩), (8, some ⟨.int .i64, x8⟩), (9, some ⟨.int .i64, x9⟩)] (⟨retK path_Join.rs path_Join.ps path_Join.r, [(0, K1)]⟩ : Ks path_Join.R) Kb2 =
  (Kb2 [(0, some ⟨.slB .U false .str, x0⟩), (4, some ⟨.int .i64, x4⟩), (7, some ⟨.slB .U false .str, x7⟩), (8, some ⟨.int .i64, x8⟩), (9, some ⟨.int .i64, (IntKind.i64.wrap (x9 + (1 : Int)))⟩)] : Option path_Join.R) := by kernel_rfl
theorem path_Join.s3 (n : Nat) (Kr2 : St → Option path_Join.R) (kr2 : (List (List Int)) → Int → (List (List Int)) → Int → Int → Option ((List Int) × Int × Unit)) (hK2 : ∀ (x0 : List (List Int)) (x4 : Int) (x7 : List (List Int)) (x8 : Int) (x9 : Int), Kr2 [(0, some ⟨.slB .U false .str, x0⟩), (4, some ⟨.int .i64, x4⟩), (7, some ⟨.slB .U false .str, x7⟩), (8, some ⟨.int .i64, x8⟩), (9, some ⟨.int .i64, x9⟩)] = kr2 x0 x4 x7 x8 x9) (x0 : List (List Int)) (x4 : Int) (x7 : List (List Int)) (x8 : Int) (x9 : Int) : ev (path_Join.c3 n) [(0, some ⟨.slB .U false .str, x0⟩), (4, some ⟨.int .i64, x4⟩), (7, some ⟨.slB .U false .str, x7⟩), (8, some ⟨.int .i64, x8⟩), (9, some ⟨.int .i64, x9⟩)] (⟨retK path_Join.rs path_Join.ps path_Join.r, [(0, (path_Join.K1 n))]⟩ : Ks path_Join.R) (path_Join.Kb2 Kr2) = path_Join.j3 n kr2 x0 x4 x7 x8 x9 := (path_Join.w3 n Kr2 x0 x4 x7 x8 x9 (path_Join.K1 n) (path_Join.Kb2 Kr2)).trans (by simp only [path_Join.j3, path_Join.qb2_0 Kr2 kr2 hK2] <;> kernel_rfl)
noncomputable def path_Join.H3 (n : Nat) (K1 : St → Option path_Join.R) (Kb2 : St → Option path_Join.R) (X : XC) : St → Option path_Join.R := fun st => ghK [.keep [0, 4, 7, 8, 9]] st fun st => ev X st (⟨retK path_Join.rs path_Join.ps path_Join.r, [(0, K1)]⟩ : Ks path_Join.R) Kb2
noncomputable abbrev path_Join.K3 (n : Nat) (Kr2 : St → Option path_Join.R) : St → Option path_Join.R := path_Join.H3 n (path_Join.K1 n) (path_Join.Kb2 Kr2) (path_Join.c3 n)
noncomputable def path_Join.db2 (n : Nat) (X3 : XC) : XC :=
  (.aft (.seq (.reg (.op (.bin 10 .lss (.t 9) (.t 8)) none <| .nil)) <|
  (.seq (.cond (.t 10)
  .skip
  (.pre [.keep [0]] (.exit 0))) <|
  (.seq (.aft (.block 1 (.seq (.reg (.op (.idxA 11 (.t 7) (.t 9) 1 0) none <| .op (.ld 12 11 1 false) none <| .op (.mv 6 (.t 12)) none <| .nil)) <|
  (.seq (.seq (.reg (.op (.mv 13 (.t 6)) none <| .op (.call (some 14) (path_Name.sp n) [.v (.t 13)]) none <| .op (.un 15 .not (.t 14)) none <| .nil)) <|
  (.cond (.t 15)
  (.seq (.pre [.keep []] (.reg (.op (.mv 2 (.c ⟨.str, (([] : List Int) : List Int)⟩)) none <| .op (.mv 3 (.c ⟨.int .i64, ((3 : Int) : Int)⟩)) none <| .nil))) <|
  .ret)
  .skip)) <|
  (.seq (.reg (.op (.mv 16 (.t 4)) none <| .op (.mv 17 (.t 6)) none <| .op (.len 18 (.t 17) true) none <| .op (.bin 19 .add (.c ⟨.int .i64, ((1 : Int) : Int)⟩) (.t 18)) none <| .op (.bin 20 .add (.t 16) (.t 19)) none <| .op (.mv 4 (.t 20)) none <| .nil)) <|
  (.seq (.pre [.keep [0, 4, 7, 8, 9]] (.reg (.op (.mv 21 (.t 4)) none <| .op (.bin 22 .gtr (.t 21) (.c ⟨.int .i64, ((120 : Int) : Int)⟩)) none <| .nil))) <|
  (.cond (.t 22)
  (.seq (.reg (.op (.mv 2 (.c ⟨.str, (([] : List Int) : List Int)⟩)) none <| .op (.mv 3 (.c ⟨.int .i64, ((3 : Int) : Int)⟩)) none <| .nil)) <|
  .ret)
  .skip)))))) [.keep [0, 4, 7, 8, 9]]) X3))) [.keep [0, 4, 7, 8, 9]])
noncomputable abbrev path_Join.cb2 (n : Nat) : XC := path_Join.db2 n (path_Join.c3 n)
theorem path_Join.q1_0_r (n : Nat) (X : XC) (x0 : List (List Int)) : path_Join.H1 n X [(0, some ⟨.slB .U false .str, x0⟩)] = (ev X [(0, some ⟨.slB .U false .str, x0⟩)] (⟨retK path_Join.rs path_Join.ps path_Join.r, []⟩ : Ks path_Join.R) (retK path_Join.rs path_Join.ps path_Join.r) : Option path_Join.R) := by kernel_rfl
theorem path_Join.q1_0 (n : Nat) (x0 : List (List Int)) : path_Join.K1 n [(0, some ⟨.slB .U false .str, x0⟩)] = path_Join.j1 n x0 := (path_Join.q1_0_r n (path_Join.c1 n) x0).trans (path_Join.s1 n x0)
noncomputable def path_Join.l2 (n : Nat) : Nat → (List (List Int)) → Int → (List (List Int)) → Int → Int → Option ((List Int) × Int × Unit)
  | 0, _, _, _, _, _ => none
  | k + 1, x0, x4, x7, x8, x9 =>
  bif (decide (x9 < x8)) then (idxK x7 x9 fun e1 => (path_Name.f n e1).bind fun r2 => bif (!r2) then (some (([] : List Int), (3 : Int), ()))
  else (bif (decide ((120 : Int) < (IntKind.i64.wrap (x4 + (IntKind.i64.wrap ((1 : Int) + (e1.length : Int))))))) then (some (([] : List Int), (3 : Int), ()))
  else (path_Join.j3 n (path_Join.l2 n k) x0 (IntKind.i64.wrap (x4 + (IntKind.i64.wrap ((1 : Int) + (e1.length : Int))))) x7 x8 x9)))
  else (path_Join.j1 n x0)
theorem path_Join.wb2 (n : Nat) (Kr2 : St → Option path_Join.R) (x0 : List (List Int)) (x4 : Int) (x7 : List (List Int)) (x8 : Int) (x9 : Int) (K1 : St → Option path_Join.R) (X3 : XC) : ev (path_Join.db2 n X3) (keepSt [(0, some ⟨.slB .U false .str, x0⟩), (4, some ⟨.int .i64, x4⟩), (7, some ⟨.slB .U false .str, x7⟩), (8, some ⟨.int .i64, x8⟩), (9, some ⟨.int .i64, x9⟩)] [0, 4, 7, 8, 9]) (⟨retK path_Join.rs path_Join.ps path_Join.r, [(0, K1)]⟩ : Ks path_Join.R) Kr2 =
  (bif (decide (x9 < x8)) then (idxK x7 x9 fun e1 => (path_Name.f n e1).bind fun r2 => bif (!r2) then (some (([] : List Int), (3 : Int), ()))
  else (bif (decide ((120 : Int) < (IntKind.i64.wrap (x4 + (IntKind.i64.wrap ((1 : Int) + (e1.length : Int))))))) then (some (([] : List Int), (3 : Int), ()))
  else (ev X3 [(0, some ⟨.slB .U false .str, x0⟩), (4, some ⟨.int .i64, (IntKind.i64.wrap (x4 + (IntKind.i64.wrap ((1 : Int) + (e1.length : Int)))))⟩), (7, some ⟨.slB .U false .str, x7⟩), (8, some ⟨.int .i64, x8⟩), (9, some ⟨.int .i64, x9⟩)] (⟨retK path_Join.rs path_Join.ps path_Join.r, [(0, K1)]⟩ : Ks path_Join.R) (path_Join.Kb2 Kr2))))
  else (K1 [(0, some ⟨.slB .U false .str, x0⟩)]) : Option path_Join.R) := by kernel_rfl
theorem path_Join.l2_ok (n : Nat) (k : Nat) : ∀ (x0 : List (List Int)) (x4 : Int) (x7 : List (List Int)) (x8 : Int) (x9 : Int), loopEv [0, 4, 7, 8, 9] (fun s K => ev (path_Join.cb2 n) s (⟨retK path_Join.rs path_Join.ps path_Join.r, [(0, (path_Join.K1 n))]⟩ : Ks path_Join.R) K) k [(0, some ⟨.slB .U false .str, x0⟩), (4, some ⟨.int .i64, x4⟩), (7, some ⟨.slB .U false .str, x7⟩), (8, some ⟨.int .i64, x8⟩), (9, some ⟨.int .i64, x9⟩)] = path_Join.l2 n k x0 x4 x7 x8 x9 := by
  induction k with
  | zero => intros; rfl
  | succ k ih =>
    intro x0 x4 x7 x8 x9
    exact (path_Join.wb2 n (fun st => loopEv [0, 4, 7, 8, 9] (fun s K => ev (path_Join.cb2 n) s (⟨retK path_Join.rs path_Join.ps path_Join.r, [(0, (path_Join.K1 n))]⟩ : Ks path_Join.R) K) k st) x0 x4 x7 x8 x9 (path_Join.K1 n) (path_Join.c3 n)).trans (by simp only [path_Join.l2, path_Join.s3 n (fun st => loopEv [0, 4, 7, 8, 9] (fun s K => ev (path_Join.cb2 n) s (⟨retK path_Join.rs path_Join.ps path_Join.r, [(0, (path_Join.K1 n))]⟩ : Ks path_Join.R) K) k st) (path_Join.l2 n k) ih, path_Join.q1_0 n] <;> kernel_rfl)
noncomputable def path_Join.d (n : Nat) (X1 Y2 : XC) : XC :=
  (.seq (.reg (.op (.mv 2 (.c ⟨.str, (([] : List Int) : List Int)⟩)) none <| .op (.mv 3 (.c ⟨.int .i64, ((0 : Int) : Int)⟩)) none <| .nil)) <|
  (.seq (.reg (.op (.mv 4 (.c ⟨.int .i64, ((0 : Int) : Int)⟩)) none <| .nil)) <|
  (.seq (.aft (.seq (.reg (.op (.mv 7 (.t 0)) none <| .op (.len 8 (.t 7) false) none <| .op (.mv 9 (.c ⟨.int .i64, ((0 : Int) : Int)⟩)) none <| .nil)) <|
  (.block 0 (.pre [.keep [0, 4, 7, 8, 9]] (.loop n [0, 4, 7, 8, 9] Y2)))) [.keep [0]]) X1)))
noncomputable abbrev path_Join.c (n : Nat) : XC := path_Join.d n (path_Join.c1 n) (path_Join.cb2 n)
noncomputable def path_Join.f (n : Nat) (a0 : List (List Int)) : Option ((List Int) × Int × Unit) :=
  path_Join.l2 n n a0 (0 : Int) a0 (a0.length : Int) (0 : Int)
theorem path_Join.w (n : Nat) (a0 : List (List Int)) (X1 Y2 : XC) : evFn (path_Join.d n X1 Y2) path_Join.rs path_Join.ps path_Join.r (a0, ()) =
  (loopEv [0, 4, 7, 8, 9] (fun s K => ev Y2 s (⟨retK path_Join.rs path_Join.ps path_Join.r, [(0, (path_Join.H1 n X1))]⟩ : Ks path_Join.R) K) n [(0, some ⟨.slB .U false .str, a0⟩), (4, some ⟨.int .i64, (0 : Int)⟩), (7, some ⟨.slB .U false .str, a0⟩), (8, some ⟨.int .i64, (a0.length : Int)⟩), (9, some ⟨.int .i64, (0 : Int)⟩)] : Option path_Join.R) := by kernel_rfl
theorem path_Join.ok (n : Nat) (a0 : List (List Int)) : evFn (path_Join.c n) path_Join.rs path_Join.ps path_Join.r (a0, ()) = path_Join.f n a0 := (path_Join.w n a0 (path_Join.c1 n) (path_Join.cb2 n)).trans (by simp only [path_Join.f, path_Join.l2_ok n] <;> kernel_rfl)
noncomputable def path_Join.sp (n : Nat) : FSpec := { f := 8, ps := path_Join.ps, r := path_Join.r, run := fun x => path_Join.f n x.1 }
theorem path_Join.calls (n : Nat) : (path_Join.c n).calls = [path_Name.sp n, strings_Join.sp n] := by kernel_rfl
theorem path_Join.fits (n : Nat) : fnB tab hd Try.f8 (path_Join.c n) path_Join.rs (path_Join.sp n).ps (path_Join.sp n).r = true := by kernel_rfl
theorem path_Join.sound (n : Nat) : Sound Try.prog (path_Join.sp n) := by
  refine fnB_sound tabOk eqFacts mixed (fn := Try.f8) (c := path_Join.c n) (rs := path_Join.rs) (by kernel_rfl) ?_ (path_Join.fits n) ?_
  · rw [path_Join.calls]
    intro s hs
    simp only [List.mem_cons, List.not_mem_nil, or_false] at hs
    rcases hs with rfl | rfl
    · exact path_Name.meets n
    · exact strings_Join.meets n
  · rintro ⟨a0, ⟨⟩⟩ y h
    exact (path_Join.ok n a0).trans h
theorem path_Join.meets (n : Nat) : Meets Try.prog (path_Join.sp n) := (path_Join.sound n).meets
/-! backwater/backwaterref02.Name -/
abbrev r02_Name.ps : List (Ty × Bool) := [(.str, false)]
abbrev r02_Name.r : Ty := .bool
abbrev r02_Name.rs : List RV := [.t 2]
abbrev r02_Name.R : Type := (rtOf r02_Name.ps r02_Name.r).den
noncomputable def r02_Name.d1 (n : Nat) : XC :=
  (.seq (.reg (.op (.mv 41 (.t 0)) none <| .op (.len 42 (.t 41) true) none <| .op (.bin 43 .geq (.t 42) (.c ⟨.int .i64, ((1 : Int) : Int)⟩)) none <| .op (.mv 44 (.t 43)) none <| .grp 44 true (.op (.mv 45 (.t 0)) (some ([0, 44, 45], [45])) <| .op (.len 46 (.t 45) true) (some ([44, 45, 46], [46])) <| .op (.bin 47 .leq (.t 46) (.c ⟨.int .i64, ((12 : Int) : Int)⟩)) (some ([44, 46, 47], [47])) <| .nil) 47 48 [45, 46, 47] <| .op (.mv 49 (.t 48)) none <| .grp 49 true (.op (.mv 50 (.t 0)) (some ([0, 49, 50], [50])) <| .op (.bin 51 .neq (.t 50) (.c ⟨.str, (([46] : List Int) : List Int)⟩)) (some ([49, 50, 51], [51])) <| .nil) 51 52 [50, 51] <| .op (.mv 53 (.t 52)) none <| .grp 53 true (.op (.mv 54 (.t 0)) (some ([0, 53, 54], [54])) <| .op (.bin 55 .neq (.t 54) (.c ⟨.str, (([46, 46] : List Int) : List Int)⟩)) (some ([53, 54, 55], [55])) <| .nil) 55 56 [54, 55] <| .op (.mv 2 (.t 56)) none <| .nil)) <|
  .ret)
noncomputable abbrev r02_Name.c1 (n : Nat) : XC := r02_Name.d1 n
noncomputable def r02_Name.j1 (n : Nat) (x0 : List Int) : Option Bool :=
  (bif (decide ((1 : Int) ≤ (x0.length : Int))) then (some (decide ((x0.length : Int) ≤ (12 : Int)))) else some false).bind fun g1 =>
  (bif g1 then (some (!decide (x0 = ([46] : List Int)))) else some false).bind fun g2 =>
  (bif g2 then (some (!decide (x0 = ([46, 46] : List Int)))) else some false).bind fun g3 =>
  some g3
theorem r02_Name.s1 (n : Nat) (x0 : List Int) : ev (r02_Name.c1 n) [(0, some ⟨.str, x0⟩)] (⟨retK r02_Name.rs r02_Name.ps r02_Name.r, []⟩ : Ks r02_Name.R) (retK r02_Name.rs r02_Name.ps r02_Name.r) = r02_Name.j1 n x0 := by kernel_rfl
noncomputable def r02_Name.H1 (n : Nat) (X : XC) : St → Option r02_Name.R := fun st => ghK [.keep [0]] st fun st => ev X st (⟨retK r02_Name.rs r02_Name.ps r02_Name.r, []⟩ : Ks r02_Name.R) (retK r02_Name.rs r02_Name.ps r02_Name.r)
noncomputable abbrev r02_Name.K1 (n : Nat) : St → Option r02_Name.R := r02_Name.H1 n (r02_Name.c1 n)
noncomputable def r02_Name.Kb2 (Kr2 : St → Option r02_Name.R) : St → Option r02_Name.R := fun st => ghK [.keep [0, 3]] st Kr2
noncomputable def r02_Name.d3 (n : Nat) : XC :=
  (.aft (.reg (.op (.mv 9 (.t 3)) none <| .op (.bin 10 .add (.t 9) (.c ⟨.int .i64, ((1 : Int) : Int)⟩)) none <| .op (.mv 3 (.t 10)) none <| .nil)) [.keep [0, 3]])
noncomputable abbrev r02_Name.c3 (n : Nat) : XC := r02_Name.d3 n
theorem r02_Name.qb2_0 (Kr2 : St → Option r02_Name.R) (kr2 : (List Int) → Int → Option Bool) (hK2 : ∀ (x0 : List Int) (x3 : Int), Kr2 [(0, some ⟨.str, x0⟩), (3, some ⟨.int .i64, x3⟩)] = kr2 x0 x3) (x0 : List Int) (x3 : Int) : r02_Name.Kb2 Kr2 [(0, some ⟨.str, x0⟩), (3, some ⟨.int .i64, x3⟩)] = kr2 x0 x3 := (by kernel_rfl : _ = Kr2 [(0, some ⟨.str, x0⟩), (3, some ⟨.int .i64, x3⟩)]).trans (hK2 x0 x3)
noncomputable def r02_Name.j3 (n : Nat) (kr2 : (List Int) → Int → Option Bool) (x0 : List Int) (x3 : Int) : Option Bool :=
  kr2 x0 (IntKind.i64.wrap (x3 + (1 : Int)))
theorem r02_Name.w3 (n : Nat) (Kr2 : St → Option r02_Name.R) (x0 : List Int) (x3 : Int) (K1 : St → Option r02_Name.R) (Kb2 : St → Option r02_Name.R) : ev (r02_Name.d3 n) [(0, some ⟨.str, x0⟩), (3, some ⟨.int .i64, x3⟩)] (⟨retK r02_Name.rs r02_Name.ps r02_Name.r, [(0, K1)]⟩ : Ks r02_Name.R) Kb2 =
  (Kb2 [(0, some ⟨.str, x0⟩), (3, some ⟨.int .i64, (IntKind.i64.wrap (x3 + (1 : Int)))⟩)] : Option r02_Name.R) := by kernel_rfl
theorem r02_Name.s3 (n : Nat) (Kr2 : St → Option r02_Name.R) (kr2 : (List Int) → Int → Option Bool) (hK2 : ∀ (x0 : List Int) (x3 : Int), Kr2 [(0, some ⟨.str, x0⟩), (3, some ⟨.int .i64, x3⟩)] = kr2 x0 x3) (x0 : List Int) (x3 : Int) : ev (r02_Name.c3 n) [(0, some ⟨.str, x0⟩), (3, some ⟨.int .i64, x3⟩)] (⟨retK r02_Name.rs r02_Name.ps r02_Name.r, [(0, (r02_Name.K1 n))]⟩ : Ks r02_Name.R) (r02_Name.Kb2 Kr2) = r02_Name.j3 n kr2 x0 x3 := (r02_Name.w3 n Kr2 x0 x3 (r02_Name.K1 n) (r02_Name.Kb2 Kr2)).trans (by simp only [r02_Name.j3, r02_Name.qb2_0 Kr2 kr2 hK2] <;> kernel_rfl)
noncomputable def r02_Name.H3 (n : Nat) (K1 : St → Option r02_Name.R) (Kb2 : St → Option r02_Name.R) (X : XC) : St → Option r02_Name.R := fun st => ghK [.keep [0, 3]] st fun st => ev X st (⟨retK r02_Name.rs r02_Name.ps r02_Name.r, [(0, K1)]⟩ : Ks r02_Name.R) Kb2
noncomputable abbrev r02_Name.K3 (n : Nat) (Kr2 : St → Option r02_Name.R) : St → Option r02_Name.R := r02_Name.H3 n (r02_Name.K1 n) (r02_Name.Kb2 Kr2) (r02_Name.c3 n)
noncomputable def r02_Name.db2 (n : Nat) (X3 : XC) : XC :=
  (.aft (.seq (.seq (.reg (.op (.mv 5 (.t 3)) none <| .op (.mv 6 (.t 0)) none <| .op (.len 7 (.t 6) true) none <| .op (.bin 8 .lss (.t 5) (.t 7)) none <| .nil)) <|
  (.cond (.t 8)
  .skip
  (.pre [.keep [0]] (.exit 0)))) <|
  (.seq (.aft (.block 1 (.seq (.reg (.op (.mv 11 (.t 0)) none <| .op (.mv 12 (.t 3)) none <| .op (.idx 13 (.t 11) (.t 12) 1 false 0) none <| .op (.mv 4 (.t 13)) none <| .nil)) <|
  (.seq (.reg (.op (.mv 14 (.t 4)) none <| .op (.bin 15 .geq (.t 14) (.c ⟨.int .u8, ((97 : Int) : Int)⟩)) none <| .op (.mv 16 (.t 15)) none <| .grp 16 true (.op (.mv 17 (.t 4)) (some ([4, 16, 17], [17])) <| .op (.bin 18 .leq (.t 17) (.c ⟨.int .u8, ((122 : Int) : Int)⟩)) (some ([16, 17, 18], [18])) <| .nil) 18 19 [17, 18] <| .op (.mv 20 (.t 19)) none <| .grp 20 false (.op (.mv 21 (.t 4)) (some ([4, 20, 21], [21])) <| .op (.bin 22 .geq (.t 21) (.c ⟨.int .u8, ((48 : Int) : Int)⟩)) (some ([20, 21, 22], [22])) <| .op (.mv 23 (.t 22)) (some ([20, 22, 23], [23])) <| .grp 23 true (.op (.mv 24 (.t 4)) (some ([4, 23, 24], [24])) <| .op (.bin 25 .leq (.t 24) (.c ⟨.int .u8, ((57 : Int) : Int)⟩)) (some ([23, 24, 25], [25])) <| .nil) 25 26 [24, 25] <| .nil) 26 27 [21, 22, 23, 24, 25, 26] <| .op (.mv 28 (.t 27)) none <| .grp 28 false (.op (.mv 29 (.t 4)) (some ([4, 28, 29], [29])) <| .op (.bin 30 .eql (.t 29) (.c ⟨.int .u8, ((46 : Int) : Int)⟩)) (some ([28, 29, 30], [30])) <| .nil) 30 31 [29, 30] <| .op (.mv 32 (.t 31)) none <| .grp 32 false (.op (.mv 33 (.t 4)) (some ([4, 32, 33], [33])) <| .op (.bin 34 .eql (.t 33) (.c ⟨.int .u8, ((45 : Int) : Int)⟩)) (some ([32, 33, 34], [34])) <| .nil) 34 35 [33, 34] <| .op (.mv 36 (.t 35)) none <| .grp 36 false (.op (.mv 37 (.t 4)) (some ([4, 36, 37], [37])) <| .op (.bin 38 .eql (.t 37) (.c ⟨.int .u8, ((95 : Int) : Int)⟩)) (some ([36, 37, 38], [38])) <| .nil) 38 39 [37, 38] <| .op (.un 40 .not (.t 39)) none <| .nil)) <|
  (.cond (.t 40)
  (.seq (.pre [.keep []] (.reg (.op (.mv 2 (.c ⟨.bool, (false : Bool)⟩)) none <| .nil))) <|
  .ret)
  .skip)))) [.keep [0, 3]]) X3)) [.keep [0, 3]])
noncomputable abbrev r02_Name.cb2 (n : Nat) : XC := r02_Name.db2 n (r02_Name.c3 n)
theorem r02_Name.q1_0_r (n : Nat) (X : XC) (x0 : List Int) : r02_Name.H1 n X [(0, some ⟨.str, x0⟩)] = (ev X [(0, some ⟨.str, x0⟩)] (⟨retK r02_Name.rs r02_Name.ps r02_Name.r, []⟩ : Ks r02_Name.R) (retK r02_Name.rs r02_Name.ps r02_Name.r) : Option r02_Name.R) := by kernel_rfl
theorem r02_Name.q1_0 (n : Nat) (x0 : List Int) : r02_Name.K1 n [(0, some ⟨.str, x0⟩)] = r02_Name.j1 n x0 := (r02_Name.q1_0_r n (r02_Name.c1 n) x0).trans (r02_Name.s1 n x0)
noncomputable def r02_Name.l2 (n : Nat) : Nat → (List Int) → Int → Option Bool
  | 0, _, _ => none
  | k + 1, x0, x3 =>
  bif (decide (x3 < (x0.length : Int))) then (idxK x0 x3 fun e1 => (bif (decide ((97 : Int) ≤ e1)) then (some (decide (e1 ≤ (122 : Int)))) else some false).bind fun g2 =>
  (bif g2 then some true else ((bif (decide ((48 : Int) ≤ e1)) then (some (decide (e1 ≤ (57 : Int)))) else some false).bind fun g4 =>
  some g4)).bind fun g3 =>
  (bif g3 then some true else (some (decide (e1 = (46 : Int))))).bind fun g5 =>
  (bif g5 then some true else (some (decide (e1 = (45 : Int))))).bind fun g6 =>
  (bif g6 then some true else (some (decide (e1 = (95 : Int))))).bind fun g7 =>
  bif (!g7) then (some false)
  else (r02_Name.j3 n (r02_Name.l2 n k) x0 x3))
  else (r02_Name.j1 n x0)
theorem r02_Name.wb2 (n : Nat) (Kr2 : St → Option r02_Name.R) (x0 : List Int) (x3 : Int) (K1 : St → Option r02_Name.R) (X3 : XC) : ev (r02_Name.db2 n X3) (keepSt [(0, some ⟨.str, x0⟩), (3, some ⟨.int .i64, x3⟩)] [0, 3]) (⟨retK r02_Name.rs r02_Name.ps r02_Name.r, [(0, K1)]⟩ : Ks r02_Name.R) Kr2 =
  (bif (decide (x3 < (x0.length : Int))) then (idxK x0 x3 fun e1 => (bif (decide ((97 : Int) ≤ e1)) then (some (decide (e1 ≤ (122 : Int)))) else some false).bind fun g2 =>
  (bif g2 then some true else ((bif (decide ((48 : Int) ≤ e1)) then (some (decide (e1 ≤ (57 : Int)))) else some false).bind fun g4 =>
  some g4)).bind fun g3 =>
  (bif g3 then some true else (some (decide (e1 = (46 : Int))))).bind fun g5 =>
  (bif g5 then some true else (some (decide (e1 = (45 : Int))))).bind fun g6 =>
  (bif g6 then some true else (some (decide (e1 = (95 : Int))))).bind fun g7 =>
  bif (!g7) then (some false)
  else (ev X3 [(0, some ⟨.str, x0⟩), (3, some ⟨.int .i64, x3⟩)] (⟨retK r02_Name.rs r02_Name.ps r02_Name.r, [(0, K1)]⟩ : Ks r02_Name.R) (r02_Name.Kb2 Kr2)))
  else (K1 [(0, some ⟨.str, x0⟩)]) : Option r02_Name.R) := by kernel_rfl
theorem r02_Name.l2_ok (n : Nat) (k : Nat) : ∀ (x0 : List Int) (x3 : Int), loopEv [0, 3] (fun s K => ev (r02_Name.cb2 n) s (⟨retK r02_Name.rs r02_Name.ps r02_Name.r, [(0, (r02_Name.K1 n))]⟩ : Ks r02_Name.R) K) k [(0, some ⟨.str, x0⟩), (3, some ⟨.int .i64, x3⟩)] = r02_Name.l2 n k x0 x3 := by
  induction k with
  | zero => intros; rfl
  | succ k ih =>
    intro x0 x3
    exact (r02_Name.wb2 n (fun st => loopEv [0, 3] (fun s K => ev (r02_Name.cb2 n) s (⟨retK r02_Name.rs r02_Name.ps r02_Name.r, [(0, (r02_Name.K1 n))]⟩ : Ks r02_Name.R) K) k st) x0 x3 (r02_Name.K1 n) (r02_Name.c3 n)).trans (by simp only [r02_Name.l2, r02_Name.s3 n (fun st => loopEv [0, 3] (fun s K => ev (r02_Name.cb2 n) s (⟨retK r02_Name.rs r02_Name.ps r02_Name.r, [(0, (r02_Name.K1 n))]⟩ : Ks r02_Name.R) K) k st) (r02_Name.l2 n k) ih, r02_Name.q1_0 n] <;> kernel_rfl)
noncomputable def r02_Name.d (n : Nat) (X1 Y2 : XC) : XC :=
  (.seq (.reg (.op (.mv 2 (.c ⟨.bool, (false : Bool)⟩)) none <| .nil)) <|
  (.seq (.aft (.seq (.reg (.op (.mv 3 (.c ⟨.int .i64, ((0 : Int) : Int)⟩)) none <| .nil)) <|
  (.block 0 (.pre [.keep [0, 3]] (.loop n [0, 3] Y2)))) [.keep [0]]) X1))
noncomputable abbrev r02_Name.c (n : Nat) : XC := r02_Name.d n (r02_Name.c1 n) (r02_Name.cb2 n)
noncomputable def r02_Name.f (n : Nat) (a0 : List Int) : Option Bool :=
  r02_Name.l2 n n a0 (0 : Int)
theorem r02_Name.w (n : Nat) (a0 : List Int) (X1 Y2 : XC) : evFn (r02_Name.d n X1 Y2) r02_Name.rs r02_Name.ps r02_Name.r (a0, ()) =
  (loopEv [0, 3] (fun s K => ev Y2 s (⟨retK r02_Name.rs r02_Name.ps r02_Name.r, [(0, (r02_Name.H1 n X1))]⟩ : Ks r02_Name.R) K) n [(0, some ⟨.str, a0⟩), (3, some ⟨.int .i64, (0 : Int)⟩)] : Option r02_Name.R) := by kernel_rfl
theorem r02_Name.ok (n : Nat) (a0 : List Int) : evFn (r02_Name.c n) r02_Name.rs r02_Name.ps r02_Name.r (a0, ()) = r02_Name.f n a0 := (r02_Name.w n a0 (r02_Name.c1 n) (r02_Name.cb2 n)).trans (by simp only [r02_Name.f, r02_Name.l2_ok n] <;> kernel_rfl)
noncomputable def r02_Name.sp (n : Nat) : FSpec := { f := 16, ps := r02_Name.ps, r := r02_Name.r, run := fun x => r02_Name.f n x.1 }
theorem r02_Name.calls (n : Nat) : (r02_Name.c n).calls = [] := by kernel_rfl
theorem r02_Name.fits (n : Nat) : fnB tab hd Try.f16 (r02_Name.c n) r02_Name.rs (r02_Name.sp n).ps (r02_Name.sp n).r = true := by kernel_rfl
theorem r02_Name.sound (n : Nat) : Sound Try.prog (r02_Name.sp n) := by
  refine fnB_sound tabOk eqFacts mixed (fn := Try.f16) (c := r02_Name.c n) (rs := r02_Name.rs) (by kernel_rfl) ?_ (r02_Name.fits n) ?_
  · rw [r02_Name.calls]
    intro s hs; cases hs
  · rintro ⟨a0, ⟨⟩⟩ y h
    exact (r02_Name.ok n a0).trans h
theorem r02_Name.meets (n : Nat) : Meets Try.prog (r02_Name.sp n) := (r02_Name.sound n).meets
/-! backwater/backwaterref02.Join -/
abbrev r02_Join.ps : List (Ty × Bool) := [(.slB .U false .str, false)]
abbrev r02_Join.r : Ty := .tup (.pair .str (.pair (.int .i64) .unit))
abbrev r02_Join.rs : List RV := [.t 2, .t 3]
abbrev r02_Join.R : Type := (rtOf r02_Join.ps r02_Join.r).den
noncomputable def r02_Join.d1 (n : Nat) : XC :=
  (.seq (.reg (.op (.mv 31 (.t 4)) none <| .op (.mv 2 (.t 31)) none <| .op (.mv 3 (.c ⟨.int .i64, ((0 : Int) : Int)⟩)) none <| .nil)) <|
  .ret)
noncomputable abbrev r02_Join.c1 (n : Nat) : XC := r02_Join.d1 n
noncomputable def r02_Join.j1 (n : Nat) (x4 : List Int) : Option ((List Int) × Int × Unit) :=
  some (x4, (0 : Int), ())
theorem r02_Join.s1 (n : Nat) (x4 : List Int) : ev (r02_Join.c1 n) [(4, some ⟨.str, x4⟩)] (⟨retK r02_Join.rs r02_Join.ps r02_Join.r, []⟩ : Ks r02_Join.R) (retK r02_Join.rs r02_Join.ps r02_Join.r) = r02_Join.j1 n x4 := by kernel_rfl
noncomputable def r02_Join.H1 (n : Nat) (X : XC) : St → Option r02_Join.R := fun st => ghK [.keep [4]] st fun st => ev X st (⟨retK r02_Join.rs r02_Join.ps r02_Join.r, []⟩ : Ks r02_Join.R) (retK r02_Join.rs r02_Join.ps r02_Join.r)
noncomputable abbrev r02_Join.K1 (n : Nat) : St → Option r02_Join.R := r02_Join.H1 n (r02_Join.c1 n)
noncomputable def r02_Join.Kb2 (Kr2 : St → Option r02_Join.R) : St → Option r02_Join.R := fun st => ghK [.keep [0, 4, 5]] st Kr2
noncomputable def r02_Join.d3 (n : Nat) : XC :=
  (.aft (.reg (.op (.mv 10 (.t 5)) none <| .op (.bin 11 .add (.t 10) (.c ⟨.int .i64, ((1 : Int) : Int)⟩)) none <| .op (.mv 5 (.t 11)) none <| .nil)) [.keep [0, 4, 5]])
noncomputable abbrev r02_Join.c3 (n : Nat) : XC := r02_Join.d3 n
theorem r02_Join.qb2_0 (Kr2 : St → Option r02_Join.R) (kr2 : (List (List Int)) → (List Int) → Int → Option ((List Int) × Int × Unit)) (hK2 : ∀ (x0 : List (List Int)) (x4 : List Int) (x5 : Int), Kr2 [(0, some ⟨.slB .U false .str, x0⟩), (4, some ⟨.str, x4⟩), (5, some ⟨.int .i64, x5⟩)] = kr2 x0 x4 x5) (x0 : List (List Int)) (x4 : List Int) (x5 : Int) : r02_Join.Kb2 Kr2 [(0, some ⟨.slB .U false .str, x0⟩), (4, some ⟨.str, x4⟩), (5, some ⟨.int .i64, x5⟩)] = kr2 x0 x4 x5 := (by kernel_rfl : _ = Kr2 [(0, some ⟨.slB .U false .str, x0⟩), (4, some ⟨.str, x4⟩), (5, some ⟨.int .i64, x5⟩)]).trans (hK2 x0 x4 x5)
noncomputable def r02_Join.j3 (n : Nat) (kr2 : (List (List Int)) → (List Int) → Int → Option ((List Int) × Int × Unit)) (x0 : List (List Int)) (x4 : List Int) (x5 : Int) : Option ((List Int) × Int × Unit) :=
  kr2 x0 x4 (IntKind.i64.wrap (x5 + (1 : Int)))
theorem r02_Join.w3 (n : Nat) (Kr2 : St → Option r02_Join.R) (x0 : List (List Int)) (x4 : List Int) (x5 : Int) (K1 : St → Option r02_Join.R) (Kb2 : St → Option r02_Join.R) : ev (r02_Join.d3 n) [(0, some ⟨.slB .U false .str, x0⟩), (4, some ⟨.str, x4⟩), (5, some ⟨.int .i64, x5⟩)] (⟨retK r02_Join.rs r02_Join.ps r02_Join.r, [(0, K1)]⟩ : Ks r02_Join.R) Kb2 =
  (Kb2 [(0, some ⟨.slB .U false .str, x0⟩), (4, some ⟨.str, x4⟩), (5, some ⟨.int .i64, (IntKind.i64.wrap (x5 + (1 : Int)))⟩)] : Option r02_Join.R) := by kernel_rfl
theorem r02_Join.s3 (n : Nat) (Kr2 : St → Option r02_Join.R) (kr2 : (List (List Int)) → (List Int) → Int → Option ((List Int) × Int × Unit)) (hK2 : ∀ (x0 : List (List Int)) (x4 : List Int) (x5 : Int), Kr2 [(0, some ⟨.slB .U false .str, x0⟩), (4, some ⟨.str, x4⟩), (5, some ⟨.int .i64, x5⟩)] = kr2 x0 x4 x5) (x0 : List (List Int)) (x4 : List Int) (x5 : Int) : ev (r02_Join.c3 n) [(0, some ⟨.slB .U false .str, x0⟩), (4, some ⟨.str, x4⟩), (5, some ⟨.int .i64, x5⟩)] (⟨retK r02_Join.rs r02_Join.ps r02_Join.r, [(0, (r02_Join.K1 n))]⟩ : Ks r02_Join.R) (r02_Join.Kb2 Kr2) = r02_Join.j3 n kr2 x0 x4 x5 := (r02_Join.w3 n Kr2 x0 x4 x5 (r02_Join.K1 n) (r02_Join.Kb2 Kr2)).trans (by simp only [r02_Join.j3, r02_Join.qb2_0 Kr2 kr2 hK2] <;> kernel_rfl)
noncomputable def r02_Join.H3 (n : Nat) (K1 : St → Option r02_Join.R) (Kb2 : St → Option r02_Join.R) (X : XC) : St → Option r02_Join.R := fun st => ghK [.keep [0, 4, 5]] st fun st => ev X st (⟨retK r02_Join.rs r02_Join.ps r02_Join.r, [(0, K1)]⟩ : Ks r02_Join.R) Kb2
noncomputable abbrev r02_Join.K3 (n : Nat) (Kr2 : St → Option r02_Join.R) : St → Option r02_Join.R := r02_Join.H3 n (r02_Join.K1 n) (r02_Join.Kb2 Kr2) (r02_Join.c3 n)
noncomputable def r02_Join.d4 (n : Nat) : XC :=
  (.aft (.seq (.reg (.op (.mv 22 (.t 4)) none <| .op (.mv 23 (.t 0)) none <| .op (.mv 24 (.t 5)) none <| .op (.idxA 25 (.t 23) (.t 24) 1 0) none <| .op (.ld 26 25 1 false) none <| .op (.bin 27 .add (.t 22) (.t 26)) none <| .op (.mv 4 (.t 27)) none <| .nil)) <|
  (.seq (.reg (.op (.mv 28 (.t 4)) none <| .op (.len 29 (.t 28) true) none <| .op (.bin 30 .gtr (.t 29) (.c ⟨.int .i64, ((120 : Int) : Int)⟩)) none <| .nil)) <|
  (.cond (.t 30)
  (.seq (.pre [.keep []] (.reg (.op (.mv 2 (.c ⟨.str, (([] : List Int) : List Int)⟩)) none <| .op (.mv 3 (.c ⟨.int .i64, ((3 : Int) : Int)⟩)) none <| .nil))) <|
  .ret)
  .skip))) [.keep [0, 4, 5]])
noncomputable abbrev r02_Join.c4 (n : Nat) : XC := r02_Join.d4 n
theorem r02_Join.q3_0_r (n : Nat) (Kr2 : St → Option r02_Join.R) (K1 : St → Option r02_Join.R) (Kb2 : St → Option r02_Join.R) (X : XC) (x0 : List (List Int)) (x4 : List Int) (x5 : Int) : r02_Join.H3 n K1 Kb2 X [(0, some ⟨.slB .U false .str, x0⟩), (4, some ⟨.str, x4⟩), (5, some ⟨.int .i64, x5⟩)] = (ev X [(0, some ⟨.slB .U false .str, x0⟩), (4, some ⟨.str, x4⟩), (5, some ⟨.int .i64, x5⟩)] (⟨retK r02_Join.rs r02_Join.ps r02_Join.r, [(0, K1)]⟩ : Ks r02_Join.R) Kb2 : Option r02_Join.R) := by kernel_rfl
theorem r02_Join.q3_0 (n : Nat) (Kr2 : St → Option r02_Join.R) (kr2 : (List (List Int)) → (List Int) → Int → Option ((List Int) × Int × Unit)) (hK2 : ∀ (x0 : List (List Int)) (x4 : List Int) (x5 : Int), Kr2 [(0, some ⟨.slB .U false .str, x0⟩), (4, some ⟨.str, x4⟩), (5, some ⟨.int .i64, x5⟩)] = kr2 x0 x4 x5) (x0 : List (List Int)) (x4 : List Int) (x5 : Int) : r02_Join.K3 n Kr2 [(0, some ⟨.slB .U false .str, x0⟩), (4, some ⟨.str, x4⟩), (5, some ⟨.int .i64, x5⟩)] = r02_Join.j3 n kr2 x0 x4 x5 := (r02_Join.q3_0_r n Kr2 (r02_Join.K1 n) (r02_Join.Kb2 Kr2) (r02_Join.c3 n) x0 x4 x5).trans (r02_Join.s3 n Kr2 kr2 hK2 x0 x4 x5)
noncomputable def r02_Join.j4 (n : Nat) (kr2 : (List (List Int)) → (List Int) → Int → Option ((List Int) × Int × Unit)) (x0 : List (List Int)) (x4 : List Int) (x5 : Int) : Option ((List Int) × Int × Unit) :=
  idxK x0 x5 fun e1 => leK (x4.length + e1.length) maxLen (bif (decide ((120 : Int) < ((x4 ++ e1).length : Int))) then (some (([] : List Int), (3 : Int), ()))
  else (r02_Join.j3 n kr2 x0 (x4 ++ e1) x5))
theorem r02_Join.w4 (n : Nat) (Kr2 : St → Option r02_Join.R) (x0 : List (List Int)) (x4 : List Int) (x5 : Int) (K3 : St → Option r02_Join.R) (K1 : St → Option r02_Join.R) : ev (r02_Join.d4 n) [(0, some ⟨.slB .U false .str, x0⟩), (4, some ⟨.str, x4⟩), (5, some ⟨.int .i64, x5⟩)] (⟨retK r02_Join.rs r02_Join.ps r02_Join.r, [(1, K3), (0, K1)]⟩ : Ks r02_Join.R) K3 =
  (idxK x0 x5 fun e1 => leK (x4.length + e1.length) maxLen (bif (decide ((120 : Int) < ((x4 ++ e1).length : Int))) then (some (([] : List Int), (3 : Int), ()))
  else (K3 [(0, some ⟨.slB .U false .str, x0⟩), (4, some ⟨.str, ((x4 ++ e1) : List Int)⟩), (5, some ⟨.int .i64, x5⟩)])) : Option r02_Join.R) := by kernel_rfl
theorem r02_Join.s4 (n : Nat) (Kr2 : St → Option r02_Join.R) (kr2 : (List (List Int)) → (List Int) → Int → Option ((List Int) × Int × Unit)) (hK2 : ∀ (x0 : List (List Int)) (x4 : List Int) (x5 : Int), Kr2 [(0, some ⟨.slB .U false .str, x0⟩), (4, some ⟨.str, x4⟩), (5, some ⟨.int .i64, x5⟩)] = kr2 x0 x4 x5) (x0 : List (List Int)) (x4 : List Int) (x5 : Int) : ev (r02_Join.c4 n) [(0, some ⟨.slB .U false .str, x0⟩), (4, some ⟨.str, x4⟩), (5, some ⟨.int .i64, x5⟩)] (⟨retK r02_Join.rs r02_Join.ps r02_Join.r, [(1, (r02_Join.K3 n Kr2)), (0, (r02_Join.K1 n))]⟩ : Ks r02_Join.R) (r02_Join.K3 n Kr2) = r02_Join.j4 n kr2 x0 x4 x5 := (r02_Join.w4 n Kr2 x0 x4 x5 (r02_Join.K3 n Kr2) (r02_Join.K1 n)).trans (by simp only [r02_Join.j4, r02_Join.q3_0 n Kr2 kr2 hK2] <;> kernel_rfl)
noncomputable def r02_Join.H4 (n : Nat) (K3 : St → Option r02_Join.R) (K1 : St → Option r02_Join.R) (X : XC) : St → Option r02_Join.R := fun st => ghK [.keep [0, 4, 5]] st fun st => ev X st (⟨retK r02_Join.rs r02_Join.ps r02_Join.r, [(1, K3), (0, K1)]⟩ : Ks r02_Join.R) K3
noncomputable abbrev r02_Join.K4 (n : Nat) (Kr2 : St → Option r02_Join.R) : St → Option r02_Join.R := r02_Join.H4 n (r02_Join.K3 n Kr2) (r02_Join.K1 n) (r02_Join.c4 n)
noncomputable def r02_Join.db2 (n : Nat) (X3 X4 : XC) : XC :=
  (.aft (.seq (.seq (.reg (.op (.mv 6 (.t 5)) none <| .op (.mv 7 (.t 0)) none <| .op (.len 8 (.t 7) false) none <| .op (.bin 9 .lss (.t 6) (.t 8)) none <| .nil)) <|
  (.cond (.t 9)
  .skip
  (.pre [.keep [4]] (.exit 0)))) <|
  (.seq (.aft (.block 1 (.seq (.seq (.reg (.op (.mv 12 (.t 0)) none <| .op (.mv 13 (.t 5)) none <| .op (.idxA 14 (.t 12) (.t 13) 1 0) none <| .op (.ld 15 14 1 false) none <| .op (.call (some 16) (r02_Name.sp n) [.v (.t 15)]) none <| .op (.un 17 .not (.t 16)) none <| .nil)) <|
  (.cond (.t 17)
  (.seq (.pre [.keep []] (.reg (.op (.mv 2 (.c ⟨.str, (([] : List Int) : List Int)⟩)) none <| .op (.mv 3 (.c ⟨.int .i64, ((3 : Int) : Int)⟩)) none <| .nil))) <|
  .ret)
  .skip)) <|
  (.seq (.aft (.seq (.reg (.op (.mv 18 (.t 5)) none <| .op (.bin 19 .gtr (.t 18) (.c ⟨.int .i64, ((0 : Int) : Int)⟩)) none <| .nil)) <|
  (.cond (.t 19)
  (.pre [.keep [0, 4, 5]] (.reg (.op (.mv 20 (.t 4)) none <| .op (.bin 21 .add (.t 20) (.c ⟨.str, (([47] : List Int) : List Int)⟩)) none <| .op (.mv 4 (.t 21)) none <| .nil)))
  .skip)) [.keep [0, 4, 5]]) X4))) [.keep [0, 4, 5]]) X3)) [.keep [0, 4, 5]])
noncomputable abbrev r02_Join.cb2 (n : Nat) : XC := r02_Join.db2 n (r02_Join.c3 n) (r02_Join.c4 n)
theorem r02_Join.q1_0_r (n : Nat) (X : XC) (x4 : List Int) : r02_Join.H1 n X [(4, some ⟨.str, x4⟩)] = (ev X [(4, some ⟨.str, x4⟩)] (⟨retK r02_Join.rs r02_Join.ps r02_Join.r, []⟩ : Ks r02_Join.R) (retK r02_Join.rs r02_Join.ps r02_Join.r) : Option r02_Join.R) := by kernel_rfl
theorem r02_Join.q1_0 (n : Nat) (x4 : List Int) : r02_Join.K1 n [(4, some ⟨.str, x4⟩)] = r02_Join.j1 n x4 := (r02_Join.q1_0_r n (r02_Join.c1 n) x4).trans (r02_Join.s1 n x4)
noncomputable def r02_Join.l2 (n : Nat) : Nat → (List (List Int)) → (List Int) → Int → Option ((List Int) × Int × Unit)
  | 0, _, _, _ => none
  | k + 1, x0, x4, x5 =>
  bif (decide (x5 < (x0.length : Int))) then (idxK x0 x5 fun e1 => (r02_Name.f n e1).bind fun r2 => bif (!r2) then (some (([] : List Int), (3 : Int), ()))
  else (bif (decide ((0 : Int) < x5)) then (leK (x4.length + ([47] : List Int).length) maxLen (r02_Join.j4 n (r02_Join.l2 n k) x0 (x4 ++ ([47] : List Int)) x5))
  else (r02_Join.j4 n (r02_Join.l2 n k) x0 x4 x5)))
  else (r02_Join.j1 n x4)
theorem r02_Join.wb2 (n : Nat) (Kr2 : St → Option r02_Join.R) (x0 : List (List Int)) (x4 : List Int) (x5 : Int) (K1 : St → Option r02_Join.R) (X3 X4 : XC) : ev (r02_Join.db2 n X3 X4) (keepSt [(0, some ⟨.slB .U false .str, x0⟩), (4, some ⟨.str, x4⟩), (5, some ⟨.int .i64, x5⟩)] [0, 4, 5]) (⟨retK r02_Join.rs r02_Join.ps r02_Join.r, [(0, K1)]⟩ : Ks r02_Join.R) Kr2 =
  (bif (decide (x5 < (x0.length : Int))) then (idxK x0 x5 fun e1 => (r02_Name.f n e1).bind fun r2 => bif (!r2) then (some (([] : List Int), (3 : Int), ()))
  else (bif (decide ((0 : Int) < x5)) then (leK (x4.length + ([47] : List Int).length) maxLen (ev X4 [(0, some ⟨.slB .U false .str, x0⟩), (4, some ⟨.str, ((x4 ++ ([47] : List Int)) : List Int)⟩), (5, some ⟨.int .i64, x5⟩)] (⟨retK r02_Join.rs r02_Join.ps r02_Join.r, [(1, (r02_Join.H3 n K1 (r02_Join.Kb2 Kr2) X3)), (0, K1)]⟩ : Ks r02_Join.R) (r02_Join.H3 n K1 (r02_Join.Kb2 Kr2) X3)))
  else (ev X4 [(0, some ⟨.slB .U false .str, x0⟩), (4, some ⟨.str, x4⟩), (5, some ⟨.int .i64, x5⟩)] (⟨retK r02_Join.rs r02_Join.ps r02_Join.r, [(1, (r02_Join.H3 n K1 (r02_Join.Kb2 Kr2) X3)), (0, K1)]⟩ : Ks r02_Join.R) (r02_Join.H3 n K1 (r02_Join.Kb2 Kr2) X3))))
  else (K1 [(4, some ⟨.str, x4⟩)]) : Option r02_Join.R) := by kernel_rfl
theorem r02_Join.l2_ok (n : Nat) (k : Nat) : ∀ (x0 : List (List Int)) (x4 : List Int) (x5 : Int), loopEv [0, 4, 5] (fun s K => ev (r02_Join.cb2 n) s (⟨retK r02_Join.rs r02_Join.ps r02_Join.r, [(0, (r02_Join.K1 n))]⟩ : Ks r02_Join.R) K) k [(0, some ⟨.slB .U false .str, x0⟩), (4, some ⟨.str, x4⟩), (5, some ⟨.int .i64, x5⟩)] = r02_Join.l2 n k x0 x4 x5 := by
  induction k with
  | zero => intros; rfl
  | succ k ih =>
    intro x0 x4 x5
    exact (r02_Join.wb2 n (fun st => loopEv [0, 4, 5] (fun s K => ev (r02_Join.cb2 n) s (⟨retK r02_Join.rs r02_Join.ps r02_Join.r, [(0, (r02_Join.K1 n))]⟩ : Ks r02_Join.R) K) k st) x0 x4 x5 (r02_Join.K1 n) (r02_Join.c3 n) (r02_Join.c4 n)).trans (by simp only [r02_Join.l2, r02_Join.s4 n (fun st => loopEv [0, 4, 5] (fun s K => ev (r02_Join.cb2 n) s (⟨retK r02_Join.rs r02_Join.ps r02_Join.r, [(0, (r02_Join.K1 n))]⟩ : Ks r02_Join.R) K) k st) (r02_Join.l2 n k) ih, r02_Join.q1_0 n] <;> kernel_rfl)
noncomputable def r02_Join.d (n : Nat) (X1 Y2 : XC) : XC :=
  (.seq (.reg (.op (.mv 2 (.c ⟨.str, (([] : List Int) : List Int)⟩)) none <| .op (.mv 3 (.c ⟨.int .i64, ((0 : Int) : Int)⟩)) none <| .nil)) <|
  (.seq (.reg (.op (.mv 4 (.c ⟨.str, (([47] : List Int) : List Int)⟩)) none <| .nil)) <|
  (.seq (.aft (.seq (.reg (.op (.mv 5 (.c ⟨.int .i64, ((0 : Int) : Int)⟩)) none <| .nil)) <|
  (.block 0 (.pre [.keep [0, 4, 5]] (.loop n [0, 4, 5] Y2)))) [.keep [4]]) X1)))
noncomputable abbrev r02_Join.c (n : Nat) : XC := r02_Join.d n (r02_Join.c1 n) (r02_Join.cb2 n)
noncomputable def r02_Join.f (n : Nat) (a0 : List (List Int)) : Option ((List Int) × Int × Unit) :=
  r02_Join.l2 n n a0 ([47] : List Int) (0 : Int)
theorem r02_Join.w (n : Nat) (a0 : List (List Int)) (X1 Y2 : XC) : evFn (r02_Join.d n X1 Y2) r02_Join.rs r02_Join.ps r02_Join.r (a0, ()) =
  (loopEv [0, 4, 5] (fun s K => ev Y2 s (⟨retK r02_Join.rs r02_Join.ps r02_Join.r, [(0, (r02_Join.H1 n X1))]⟩ : Ks r02_Join.R) K) n [(0, some ⟨.slB .U false .str, a0⟩), (4, some ⟨.str, (([47] : List Int) : List Int)⟩), (5, some ⟨.int .i64, (0 : Int)⟩)] : Option r02_Join.R) := by kernel_rfl
theorem r02_Join.ok (n : Nat) (a0 : List (List Int)) : evFn (r02_Join.c n) r02_Join.rs r02_Join.ps r02_Join.r (a0, ()) = r02_Join.f n a0 := (r02_Join.w n a0 (r02_Join.c1 n) (r02_Join.cb2 n)).trans (by simp only [r02_Join.f, r02_Join.l2_ok n] <;> kernel_rfl)
noncomputable def r02_Join.sp (n : Nat) : FSpec := { f := 9, ps := r02_Join.ps, r := r02_Join.r, run := fun x => r02_Join.f n x.1 }
theorem r02_Join.calls (n : Nat) : (r02_Join.c n).calls = [r02_Name.sp n] := by kernel_rfl
theorem r02_Join.fits (n : Nat) : fnB tab hd Try.f9 (r02_Join.c n) r02_Join.rs (r02_Join.sp n).ps (r02_Join.sp n).r = true := by kernel_rfl
theorem r02_Join.sound (n : Nat) : Sound Try.prog (r02_Join.sp n) := by
  refine fnB_sound tabOk eqFacts mixed (fn := Try.f9) (c := r02_Join.c n) (rs := r02_Join.rs) (by kernel_rfl) ?_ (r02_Join.fits n) ?_
  · rw [r02_Join.calls]
    intro s hs
    simp only [List.mem_cons, List.not_mem_nil, or_false] at hs
    rcases hs with rfl
    · exact r02_Name.meets n
  · rintro ⟨a0, ⟨⟩⟩ y h
    exact (r02_Join.ok n a0).trans h
theorem r02_Join.meets (n : Nat) : Meets Try.prog (r02_Join.sp n) := (r02_Join.sound n).meets
/-! internal/stringslite.HasPrefix -/
abbrev internal_stringslite_HasPrefix.ps : List (Ty × Bool) := [(.str, false), (.str, false)]
abbrev internal_stringslite_HasPrefix.r : Ty := .bool
abbrev internal_stringslite_HasPrefix.rs : List RV := [.t 4]
abbrev internal_stringslite_HasPrefix.R : Type := (rtOf internal_stringslite_HasPrefix.ps internal_stringslite_HasPrefix.r).den
noncomputable def internal_stringslite_HasPrefix.d (n : Nat) : XC :=
  (.seq (.reg (.op (.mv 4 (.c ⟨.bool, (false : Bool)⟩)) none <| .nil)) <|
  (.seq (.reg (.op (.mv 5 (.t 0)) none <| .op (.len 6 (.t 5) true) none <| .op (.mv 7 (.t 1)) none <| .op (.len 8 (.t 7) true) none <| .op (.bin 9 .geq (.t 6) (.t 8)) none <| .op (.mv 10 (.t 9)) none <| .grp 10 true (.op (.mv 11 (.t 0)) (some ([0, 10, 11], [11])) <| .op (.mv 12 (.t 1)) (some ([1, 10, 12], [12])) <| .op (.len 13 (.t 12) true) (some ([10, 12, 13], [13])) <| .op (.slc 14 (.t 11) none (some (.t 13)) none 0) (some ([10, 11, 13, 14], [14])) <| .op (.mv 15 (.t 1)) (some ([1, 10, 15], [15])) <| .op (.bin 16 .eql (.t 14) (.t 15)) (some ([10, 14, 15, 16], [16])) <| .nil) 16 17 [11, 12, 13, 14, 15, 16] <| .op (.mv 4 (.t 17)) none <| .nil)) <|
  .ret))
noncomputable abbrev internal_stringslite_HasPrefix.c (n : Nat) : XC := internal_stringslite_HasPrefix.d n
noncomputable def internal_stringslite_HasPrefix.f (n : Nat) (a0 : List Int) (a1 : List Int) : Option Bool :=
  (bif (decide ((a1.length : Int) ≤ (a0.length : Int))) then (sliceK 0 (a1.length : Int) a0.length (some (decide ((cut a0 0 (a1.length : Int)) = a1)))) else some false).bind fun g1 =>
  some g1
theorem internal_stringslite_HasPrefix.ok (n : Nat) (a0 : List Int) (a1 : List Int) : evFn (internal_stringslite_HasPrefix.c n) internal_stringslite_HasPrefix.rs internal_stringslite_HasPrefix.ps internal_stringslite_HasPrefix.r (a0, a1, ()) = internal_stringslite_HasPrefix.f n a0 a1 := by kernel_rfl
noncomputable def internal_stringslite_HasPrefix.sp (n : Nat) : FSpec := { f := 31, ps := internal_stringslite_HasPrefix.ps, r := internal_stringslite_HasPrefix.r, run := fun x => internal_stringslite_HasPrefix.f n x.1 x.2.1 }
theorem internal_stringslite_HasPrefix.calls (n : Nat) : (internal_stringslite_HasPrefix.c n).calls = [] := by kernel_rfl
theorem internal_stringslite_HasPrefix.fits (n : Nat) : fnB tab hd Try.f31 (internal_stringslite_HasPrefix.c n) internal_stringslite_HasPrefix.rs (internal_stringslite_HasPrefix.sp n).ps (internal_stringslite_HasPrefix.sp n).r = true := by kernel_rfl
theorem internal_stringslite_HasPrefix.sound (n : Nat) : Sound Try.prog (internal_stringslite_HasPrefix.sp n) := by
  refine fnB_sound tabOk eqFacts mixed (fn := Try.f31) (c := internal_stringslite_HasPrefix.c n) (rs := internal_stringslite_HasPrefix.rs) (by kernel_rfl) ?_ (internal_stringslite_HasPrefix.fits n) ?_
  · rw [internal_stringslite_HasPrefix.calls]
    intro s hs; cases hs
  · rintro ⟨a0, a1, ⟨⟩⟩ y h
    exact (internal_stringslite_HasPrefix.ok n a0 a1).trans h
theorem internal_stringslite_HasPrefix.meets (n : Nat) : Meets Try.prog (internal_stringslite_HasPrefix.sp n) := (internal_stringslite_HasPrefix.sound n).meets
/-! internal/stringslite.CutPrefix -/
abbrev internal_stringslite_CutPrefix.ps : List (Ty × Bool) := [(.str, false), (.str, false)]
abbrev internal_stringslite_CutPrefix.r : Ty := .tup (.pair .str (.pair .bool .unit))
abbrev internal_stringslite_CutPrefix.rs : List RV := [.t 4, .t 5]
abbrev internal_stringslite_CutPrefix.R : Type := (rtOf internal_stringslite_CutPrefix.ps internal_stringslite_CutPrefix.r).den
noncomputable def internal_stringslite_CutPrefix.d (n : Nat) : XC :=
  (.seq (.reg (.op (.mv 4 (.c ⟨.str, (([] : List Int) : List Int)⟩)) none <| .op (.mv 5 (.c ⟨.bool, (false : Bool)⟩)) none <| .nil)) <|
  (.seq (.seq (.reg (.op (.mv 6 (.t 0)) none <| .op (.mv 7 (.t 1)) none <| .op (.call (some 8) (internal_stringslite_HasPrefix.sp n) [.v (.t 6), .v (.t 7)]) none <| .op (.un 9 .not (.t 8)) none <| .nil)) <|
  (.cond (.t 9)
  (.seq (.reg (.op (.mv 10 (.t 0)) none <| .op (.mv 4 (.t 10)) none <| .op (.mv 5 (.c ⟨.bool, (false : Bool)⟩)) none <| .nil)) <|
  .ret)
  .skip)) <|
  (.seq (.reg (.op (.mv 11 (.t 0)) none <| .op (.mv 12 (.t 1)) none <| .op (.len 13 (.t 12) true) none <| .op (.slc 14 (.t 11) (some (.t 13)) none none 0) none <| .op (.mv 4 (.t 14)) none <| .op (.mv 5 (.c ⟨.bool, (true : Bool)⟩)) none <| .nil)) <|
  .ret)))
noncomputable abbrev internal_stringslite_CutPrefix.c (n : Nat) : XC := internal_stringslite_CutPrefix.d n
noncomputable def internal_stringslite_CutPrefix.f (n : Nat) (a0 : List Int) (a1 : List Int) : Option ((List Int) × Bool × Unit) :=
  (internal_stringslite_HasPrefix.f n a0 a1).bind fun r1 => bif (!r1) then (some (a0, false, ()))
  else (sliceK (a1.length : Int) (a0.length : Int) a0.length (some ((cut a0 (a1.length : Int) (a0.length : Int)), true, ())))
theorem internal_stringslite_CutPrefix.ok (n : Nat) (a0 : List Int) (a1 : List Int) : evFn (internal_stringslite_CutPrefix.c n) internal_stringslite_CutPrefix.rs internal_stringslite_CutPrefix.ps internal_stringslite_CutPrefix.r (a0, a1, ()) = internal_stringslite_CutPrefix.f n a0 a1 := by kernel_rfl
noncomputable def internal_stringslite_CutPrefix.sp (n : Nat) : FSpec := { f := 27, ps := internal_stringslite_CutPrefix.ps, r := internal_stringslite_CutPrefix.r, run := fun x => internal_stringslite_CutPrefix.f n x.1 x.2.1 }
theorem internal_stringslite_CutPrefix.calls (n : Nat) : (internal_stringslite_CutPrefix.c n).calls = [internal_stringslite_HasPrefix.sp n] := by kernel_rfl
theorem internal_stringslite_CutPrefix.fits (n : Nat) : fnB tab hd Try.f27 (internal_stringslite_CutPrefix.c n) internal_stringslite_CutPrefix.rs (internal_stringslite_CutPrefix.sp n).ps (internal_stringslite_CutPrefix.sp n).r = true := by kernel_rfl
theorem internal_stringslite_CutPrefix.sound (n : Nat) : Sound Try.prog (internal_stringslite_CutPrefix.sp n) := by
  refine fnB_sound tabOk eqFacts mixed (fn := Try.f27) (c := internal_stringslite_CutPrefix.c n) (rs := internal_stringslite_CutPrefix.rs) (by kernel_rfl) ?_ (internal_stringslite_CutPrefix.fits n) ?_
  · rw [internal_stringslite_CutPrefix.calls]
    intro s hs
    simp only [List.mem_cons, List.not_mem_nil, or_false] at hs
    rcases hs with rfl
    · exact internal_stringslite_HasPrefix.meets n
  · rintro ⟨a0, a1, ⟨⟩⟩ y h
    exact (internal_stringslite_CutPrefix.ok n a0 a1).trans h
theorem internal_stringslite_CutPrefix.meets (n : Nat) : Meets Try.prog (internal_stringslite_CutPrefix.sp n) := (internal_stringslite_CutPrefix.sound n).meets
/-! strings.CutPrefix -/
abbrev strings_CutPrefix.ps : List (Ty × Bool) := [(.str, false), (.str, false)]
abbrev strings_CutPrefix.r : Ty := .tup (.pair .str (.pair .bool .unit))
abbrev strings_CutPrefix.rs : List RV := [.t 4, .t 5]
abbrev strings_CutPrefix.R : Type := (rtOf strings_CutPrefix.ps strings_CutPrefix.r).den
noncomputable def strings_CutPrefix.d (n : Nat) : XC :=
  (.seq (.reg (.op (.mv 4 (.c ⟨.str, (([] : List Int) : List Int)⟩)) none <| .op (.mv 5 (.c ⟨.bool, (false : Bool)⟩)) none <| .nil)) <|
  (.seq (.reg (.op (.mv 6 (.t 0)) none <| .op (.mv 7 (.t 1)) none <| .op (.call (some 8) (internal_stringslite_CutPrefix.sp n) [.v (.t 6), .v (.t 7)]) none <| .op (.ext 9 8 0) none <| .op (.ext 10 8 1) none <| .op (.mv 4 (.t 9)) none <| .op (.mv 5 (.t 10)) none <| .nil)) <|
  .ret))
noncomputable abbrev strings_CutPrefix.c (n : Nat) : XC := strings_CutPrefix.d n
noncomputable def strings_CutPrefix.f (n : Nat) (a0 : List Int) (a1 : List Int) : Option ((List Int) × Bool × Unit) :=
  (internal_stringslite_CutPrefix.f n a0 a1).bind fun r1 => some (r1.1, r1.2.1, ())
theorem strings_CutPrefix.ok (n : Nat) (a0 : List Int) (a1 : List Int) : evFn (strings_CutPrefix.c n) strings_CutPrefix.rs strings_CutPrefix.ps strings_CutPrefix.r (a0, a1, ()) = strings_CutPrefix.f n a0 a1 := by kernel_rfl
noncomputable def strings_CutPrefix.sp (n : Nat) : FSpec := { f := 20, ps := strings_CutPrefix.ps, r := strings_CutPrefix.r, run := fun x => strings_CutPrefix.f n x.1 x.2.1 }
theorem strings_CutPrefix.calls (n : Nat) : (strings_CutPrefix.c n).calls = [internal_stringslite_CutPrefix.sp n] := by kernel_rfl
theorem strings_CutPrefix.fits (n : Nat) : fnB tab hd Try.f20 (strings_CutPrefix.c n) strings_CutPrefix.rs (strings_CutPrefix.sp n).ps (strings_CutPrefix.sp n).r = true := by kernel_rfl
theorem strings_CutPrefix.sound (n : Nat) : Sound Try.prog (strings_CutPrefix.sp n) := by
  refine fnB_sound tabOk eqFacts mixed (fn := Try.f20) (c := strings_CutPrefix.c n) (rs := strings_CutPrefix.rs) (by kernel_rfl) ?_ (strings_CutPrefix.fits n) ?_
  · rw [strings_CutPrefix.calls]
    intro s hs
    simp only [List.mem_cons, List.not_mem_nil, or_false] at hs
    rcases hs with rfl
    · exact internal_stringslite_CutPrefix.meets n
  · rintro ⟨a0, a1, ⟨⟩⟩ y h
    exact (strings_CutPrefix.ok n a0 a1).trans h
theorem strings_CutPrefix.meets (n : Nat) : Meets Try.prog (strings_CutPrefix.sp n) := (strings_CutPrefix.sound n).meets
/-! internal/bytealg.IndexByteString: by the model -/
noncomputable def internal_bytealg_IndexByteString.f (n : Nat) (a0 : List Int) (a1 : Int) : Option Int := some (ibsV a0 a1)
noncomputable def internal_bytealg_IndexByteString.sp (n : Nat) : FSpec := ibsSp 39
theorem internal_bytealg_IndexByteString.meets (n : Nat) : Meets Try.prog (internal_bytealg_IndexByteString.sp n) := ibs_meets (fn := Try.f39) (by kernel_rfl) (by kernel_rfl) (by kernel_rfl) (by kernel_rfl) (by kernel_rfl)
/-! internal/stringslite.IndexByte -/
abbrev internal_stringslite_IndexByte.ps : List (Ty × Bool) := [(.str, false), (.int .u8, false)]
abbrev internal_stringslite_IndexByte.r : Ty := .int .i64
abbrev internal_stringslite_IndexByte.rs : List RV := [.t 4]
abbrev internal_stringslite_IndexByte.R : Type := (rtOf internal_stringslite_IndexByte.ps internal_stringslite_IndexByte.r).den
noncomputable def internal_stringslite_IndexByte.d (n : Nat) : XC :=
  (.seq (.reg (.op (.mv 4 (.c ⟨.int .i64, ((0 : Int) : Int)⟩)) none <| .nil)) <|
  (.seq (.reg (.op (.mv 5 (.t 0)) none <| .op (.mv 6 (.t 1)) none <| .op (.call (some 7) (internal_bytealg_IndexByteString.sp n) [.v (.t 5), .v (.t 6)]) none <| .op (.mv 4 (.t 7)) none <| .nil)) <|
  .ret))
noncomputable abbrev internal_stringslite_IndexByte.c (n : Nat) : XC := internal_stringslite_IndexByte.d n
noncomputable def internal_stringslite_IndexByte.f (n : Nat) (a0 : List Int) (a1 : Int) : Option Int :=
  (internal_bytealg_IndexByteString.f n a0 a1).bind fun r1 => some r1
theorem internal_stringslite_IndexByte.ok (n : Nat) (a0 : List Int) (a1 : Int) : evFn (internal_stringslite_IndexByte.c n) internal_stringslite_IndexByte.rs internal_stringslite_IndexByte.ps internal_stringslite_IndexByte.r (a0, a1, ()) = internal_stringslite_IndexByte.f n a0 a1 := by kernel_rfl
noncomputable def internal_stringslite_IndexByte.sp (n : Nat) : FSpec := { f := 35, ps := internal_stringslite_IndexByte.ps, r := internal_stringslite_IndexByte.r, run := fun x => internal_stringslite_IndexByte.f n x.1 x.2.1 }
theorem internal_stringslite_IndexByte.calls (n : Nat) : (internal_stringslite_IndexByte.c n).calls = [internal_bytealg_IndexByteString.sp n] := by kernel_rfl
theorem internal_stringslite_IndexByte.fits (n : Nat) : fnB tab hd Try.f35 (internal_stringslite_IndexByte.c n) internal_stringslite_IndexByte.rs (internal_stringslite_IndexByte.sp n).ps (internal_stringslite_IndexByte.sp n).r = true := by kernel_rfl
theorem internal_stringslite_IndexByte.sound (n : Nat) : Sound Try.prog (internal_stringslite_IndexByte.sp n) := by
  refine fnB_sound tabOk eqFacts mixed (fn := Try.f35) (c := internal_stringslite_IndexByte.c n) (rs := internal_stringslite_IndexByte.rs) (by kernel_rfl) ?_ (internal_stringslite_IndexByte.fits n) ?_
  · rw [internal_stringslite_IndexByte.calls]
    intro s hs
    simp only [List.mem_cons, List.not_mem_nil, or_false] at hs
    rcases hs with rfl
    · exact internal_bytealg_IndexByteString.meets n
  · rintro ⟨a0, a1, ⟨⟩⟩ y h
    exact (internal_stringslite_IndexByte.ok n a0 a1).trans h
theorem internal_stringslite_IndexByte.meets (n : Nat) : Meets Try.prog (internal_stringslite_IndexByte.sp n) := (internal_stringslite_IndexByte.sound n).meets
/-! internal/stringslite.Index -/
abbrev internal_stringslite_Index.ps : List (Ty × Bool) := [(.str, false), (.str, false)]
abbrev internal_stringslite_Index.r : Ty := .int .i64
abbrev internal_stringslite_Index.rs : List RV := [.t 4]
abbrev internal_stringslite_Index.R : Type := (rtOf internal_stringslite_Index.ps internal_stringslite_Index.r).den
noncomputable def internal_stringslite_Index.d (n : Nat) : XC :=
  (.seq (.reg (.op (.mv 4 (.c ⟨.int .i64, ((0 : Int) : Int)⟩)) none <| .nil)) <|
  (.seq (.reg (.op (.mv 14 (.t 1)) none <| .op (.len 15 (.t 14) true) none <| .op (.mv 5 (.t 15)) none <| .nil)) <|
  (.seq (.block 0 (.seq (.reg (.op (.mv 17 (.t 5)) none <| .op (.bin 18 .eql (.t 17) (.c ⟨.int .i64, ((0 : Int) : Int)⟩)) none <| .op (.mv 19 (.t 18)) none <| .grp 19 false (.op (.mv 20 (.t 1)) (some ([1, 19, 20], [20])) <| .op (.mv 21 (.t 0)) (some ([0, 19, 21], [21])) <| .op (.bin 22 .eql (.t 20) (.t 21)) (some ([19, 20, 21, 22], [22])) <| .nil) 22 23 [20, 21, 22] <| .op (.mv 16 (.t 23)) none <| .nil)) <|
  (.cond (.t 16)
  (.seq (.pre [.keep []] (.reg (.op (.mv 4 (.c ⟨.int .i64, ((0 : Int) : Int)⟩)) none <| .nil))) <|
  .ret)
  (.seq (.reg (.op (.mv 25 (.t 5)) none <| .op (.bin 26 .eql (.t 25) (.c ⟨.int .i64, ((1 : Int) : Int)⟩)) none <| .op (.mv 24 (.t 26)) none <| .nil)) <|
  (.cond (.t 24)
  (.seq (.pre [.keep [0, 1]] (.reg (.op (.mv 27 (.t 0)) none <| .op (.mv 28 (.t 1)) none <| .op (.idx 29 (.t 28) (.c ⟨.int .i64, ((0 : Int) : Int)⟩) 1 false 0) none <| .op (.call (some 30) (internal_stringslite_IndexByte.sp n) [.v (.t 27), .v (.t 29)]) none <| .op (.mv 4 (.t 30)) none <| .nil))) <|
  .ret)
  (.seq (.pre [.keep [0, 1, 5]] (.reg (.op (.mv 32 (.t 5)) none <| .op (.mv 33 (.t 0)) none <| .op (.len 34 (.t 33) true) none <| .op (.bin 35 .geq (.t 32) (.t 34)) none <| .op (.mv 31 (.t 35)) none <| .nil))) <|
  (.cond (.t 31)
  (.seq (.reg (.op (.mv 4 (.c ⟨.int .i64, ((-1 : Int) : Int)⟩)) none <| .nil)) <|
  .ret)
  .dead))))))) <|
  .dead)))
noncomputable abbrev internal_stringslite_Index.c (n : Nat) : XC := internal_stringslite_Index.d n
noncomputable def internal_stringslite_Index.f (n : Nat) (a0 : List Int) (a1 : List Int) : Option Int :=
  (bif (decide ((a1.length : Int) = (0 : Int))) then some true else (some (decide (a1 = a0)))).bind fun g1 =>
  bif g1 then (some (0 : Int))
  else (bif (decide ((a1.length : Int) = (1 : Int))) then (idxK a1 (0 : Int) fun e2 => (internal_stringslite_IndexByte.f n a0 e2).bind fun r3 => some r3)
  else (bif (decide ((a0.length : Int) ≤ (a1.length : Int))) then (some (-1 : Int))
  else (none)))
theorem internal_stringslite_Index.ok (n : Nat) (a0 : List Int) (a1 : List Int) : evFn (internal_stringslite_Index.c n) internal_stringslite_Index.rs internal_stringslite_Index.ps internal_stringslite_Index.r (a0, a1, ()) = internal_stringslite_Index.f n a0 a1 := by kernel_rfl
noncomputable def internal_stringslite_Index.sp (n : Nat) : FSpec := { f := 32, ps := internal_stringslite_Index.ps, r := internal_stringslite_Index.r, run := fun x => internal_stringslite_Index.f n x.1 x.2.1 }
theorem internal_stringslite_Index.calls (n : Nat) : (internal_stringslite_Index.c n).calls = [internal_stringslite_IndexByte.sp n] := by kernel_rfl
theorem internal_stringslite_Index.fits (n : Nat) : fnB tab hd Try.f32 (internal_stringslite_Index.c n) internal_stringslite_Index.rs (internal_stringslite_Index.sp n).ps (internal_stringslite_Index.sp n).r = true := by kernel_rfl
theorem internal_stringslite_Index.sound (n : Nat) : Sound Try.prog (internal_stringslite_Index.sp n) := by
  refine fnB_sound tabOk eqFacts mixed (fn := Try.f32) (c := internal_stringslite_Index.c n) (rs := internal_stringslite_Index.rs) (by kernel_rfl) ?_ (internal_stringslite_Index.fits n) ?_
  · rw [internal_stringslite_Index.calls]
    intro s hs
    simp only [List.mem_cons, List.not_mem_nil, or_false] at hs
    rcases hs with rfl
    · exact internal_stringslite_IndexByte.meets n
  · rintro ⟨a0, a1, ⟨⟩⟩ y h
    exact (internal_stringslite_Index.ok n a0 a1).trans h
theorem internal_stringslite_Index.meets (n : Nat) : Meets Try.prog (internal_stringslite_Index.sp n) := (internal_stringslite_Index.sound n).meets
/-! internal/stringslite.Cut -/
abbrev internal_stringslite_Cut.ps : List (Ty × Bool) := [(.str, false), (.str, false)]
abbrev internal_stringslite_Cut.r : Ty := .tup (.pair .str (.pair .str (.pair .bool .unit)))
abbrev internal_stringslite_Cut.rs : List RV := [.t 4, .t 5, .t 6]
abbrev internal_stringslite_Cut.R : Type := (rtOf internal_stringslite_Cut.ps internal_stringslite_Cut.r).den
noncomputable def internal_stringslite_Cut.d (n : Nat) : XC :=
  (.seq (.reg (.op (.mv 4 (.c ⟨.str, (([] : List Int) : List Int)⟩)) none <| .op (.mv 5 (.c ⟨.str, (([] : List Int) : List Int)⟩)) none <| .op (.mv 6 (.c ⟨.bool, (false : Bool)⟩)) none <| .nil)) <|
  (.seq (.seq (.reg (.op (.mv 8 (.t 0)) none <| .op (.mv 9 (.t 1)) none <| .op (.call (some 10) (internal_stringslite_Index.sp n) [.v (.t 8), .v (.t 9)]) none <| .op (.mv 7 (.t 10)) none <| .nil)) <|
  (.seq (.reg (.op (.mv 11 (.t 7)) none <| .op (.bin 12 .geq (.t 11) (.c ⟨.int .i64, ((0 : Int) : Int)⟩)) none <| .nil)) <|
  (.cond (.t 12)
  (.seq (.regD (.op (.mv 13 (.t 0)) (some ([0, 13], [13])) <| .op (.mv 14 (.t 7)) (some ([7, 14], [14])) <| .op (.slc 15 (.t 13) none (some (.t 14)) none 0) (some ([13, 14, 15], [15])) <| .op (.mv 16 (.t 0)) (some ([0, 16], [16])) <| .op (.mv 17 (.t 7)) (some ([7, 17], [17])) <| .op (.mv 18 (.t 1)) (some ([1, 18], [18])) <| .op (.len 19 (.t 18) true) (some ([18, 19], [19])) <| .op (.bin 20 .add (.t 17) (.t 19)) (some ([17, 19, 20], [20])) <| .op (.slc 21 (.t 16) (some (.t 20)) none none 0) (some ([16, 20, 21], [21])) <| .op (.mv 4 (.t 15)) (some ([4, 15], [4])) <| .op (.mv 5 (.t 21)) (some ([5, 21], [5])) <| .op (.mv 6 (.c ⟨.bool, (true : Bool)⟩)) (some ([6], [6])) <| .nil)) <|
  .ret)
  .skip))) <|
  (.seq (.reg (.op (.mv 22 (.t 0)) none <| .op (.mv 4 (.t 22)) none <| .op (.mv 5 (.c ⟨.str, (([] : List Int) : List Int)⟩)) none <| .op (.mv 6 (.c ⟨.bool, (false : Bool)⟩)) none <| .nil)) <|
  .ret)))
noncomputable abbrev internal_stringslite_Cut.c (n : Nat) : XC := internal_stringslite_Cut.d n
noncomputable def internal_stringslite_Cut.f (n : Nat) (a0 : List Int) (a1 : List Int) : Option ((List Int) × (List Int) × Bool × Unit) :=
  (internal_stringslite_Index.f n a0 a1).bind fun r1 => bif (decide ((0 : Int) ≤ r1)) then (sliceK 0 r1 a0.length (sliceK (IntKind.i64.wrap (r1 + (a1.length : Int))) (a0.length : Int) a0.length (some ((cut a0 0 r1), (cut a0 (IntKind.i64.wrap (r1 + (a1.length : Int))) (a0.length : Int)), true, ()))))
  else (some (a0, ([] : List Int), false, ()))
theorem internal_stringslite_Cut.ok (n : Nat) (a0 : List Int) (a1 : List Int) : evFn (internal_stringslite_Cut.c n) internal_stringslite_Cut.rs internal_stringslite_Cut.ps internal_stringslite_Cut.r (a0, a1, ()) = internal_stringslite_Cut.f n a0 a1 := by kernel_rfl
noncomputable def internal_stringslite_Cut.sp (n : Nat) : FSpec := { f := 28, ps := internal_stringslite_Cut.ps, r := internal_stringslite_Cut.r, run := fun x => internal_stringslite_Cut.f n x.1 x.2.1 }
theorem internal_stringslite_Cut.calls (n : Nat) : (internal_stringslite_Cut.c n).calls = [internal_stringslite_Index.sp n] := by kernel_rfl
theorem internal_stringslite_Cut.fits (n : Nat) : fnB tab hd Try.f28 (internal_stringslite_Cut.c n) internal_stringslite_Cut.rs (internal_stringslite_Cut.sp n).ps (internal_stringslite_Cut.sp n).r = true := by kernel_rfl
theorem internal_stringslite_Cut.sound (n : Nat) : Sound Try.prog (internal_stringslite_Cut.sp n) := by
  refine fnB_sound tabOk eqFacts mixed (fn := Try.f28) (c := internal_stringslite_Cut.c n) (rs := internal_stringslite_Cut.rs) (by kernel_rfl) ?_ (internal_stringslite_Cut.fits n) ?_
  · rw [internal_stringslite_Cut.calls]
    intro s hs
    simp only [List.mem_cons, List.not_mem_nil, or_false] at hs
    rcases hs with rfl
    · exact internal_stringslite_Index.meets n
  · rintro ⟨a0, a1, ⟨⟩⟩ y h
    exact (internal_stringslite_Cut.ok n a0 a1).trans h
theorem internal_stringslite_Cut.meets (n : Nat) : Meets Try.prog (internal_stringslite_Cut.sp n) := (internal_stringslite_Cut.sound n).meets
/-! strings.Cut -/
abbrev strings_Cut.ps : List (Ty × Bool) := [(.str, false), (.str, false)]
abbrev strings_Cut.r : Ty := .tup (.pair .str (.pair .str (.pair .bool .unit)))
abbrev strings_Cut.rs : List RV := [.t 4, .t 5, .t 6]
abbrev strings_Cut.R : Type := (rtOf strings_Cut.ps strings_Cut.r).den
noncomputable def strings_Cut.d (n : Nat) : XC :=
  (.seq (.reg (.op (.mv 4 (.c ⟨.str, (([] : List Int) : List Int)⟩)) none <| .op (.mv 5 (.c ⟨.str, (([] : List Int) : List Int)⟩)) none <| .op (.mv 6 (.c ⟨.bool, (false : Bool)⟩)) none <| .nil)) <|
  (.seq (.reg (.op (.mv 7 (.t 0)) none <| .op (.mv 8 (.t 1)) none <| .op (.call (some 9) (internal_stringslite_Cut.sp n) [.v (.t 7), .v (.t 8)]) none <| .op (.ext 10 9 0) none <| .op (.ext 11 9 1) none <| .op (.ext 12 9 2) none <| .op (.mv 4 (.t 10)) none <| .op (.mv 5 (.t 11)) none <| .op (.mv 6 (.t 12)) none <| .nil)) <|
  .ret))
noncomputable abbrev strings_Cut.c (n : Nat) : XC := strings_Cut.d n
noncomputable def strings_Cut.f (n : Nat) (a0 : List Int) (a1 : List Int) : Option ((List Int) × (List Int) × Bool × Unit) :=
  (internal_stringslite_Cut.f n a0 a1).bind fun r1 => some (r1.1, r1.2.1, r1.2.2.1, ())
theorem strings_Cut.ok (n : Nat) (a0 : List Int) (a1 : List Int) : evFn (strings_Cut.c n) strings_Cut.rs strings_Cut.ps strings_Cut.r (a0, a1, ()) = strings_Cut.f n a0 a1 := by kernel_rfl
noncomputable def strings_Cut.sp (n : Nat) : FSpec := { f := 21, ps := strings_Cut.ps, r := strings_Cut.r, run := fun x => strings_Cut.f n x.1 x.2.1 }
theorem strings_Cut.calls (n : Nat) : (strings_Cut.c n).calls = [internal_stringslite_Cut.sp n] := by kernel_rfl
theorem strings_Cut.fits (n : Nat) : fnB tab hd Try.f21 (strings_Cut.c n) strings_Cut.rs (strings_Cut.sp n).ps (strings_Cut.sp n).r = true := by kernel_rfl
theorem strings_Cut.sound (n : Nat) : Sound Try.prog (strings_Cut.sp n) := by
  refine fnB_sound tabOk eqFacts mixed (fn := Try.f21) (c := strings_Cut.c n) (rs := strings_Cut.rs) (by kernel_rfl) ?_ (strings_Cut.fits n) ?_
  · rw [strings_Cut.calls]
    intro s hs
    simp only [List.mem_cons, List.not_mem_nil, or_false] at hs
    rcases hs with rfl
    · exact internal_stringslite_Cut.meets n
  · rintro ⟨a0, a1, ⟨⟩⟩ y h
    exact (strings_Cut.ok n a0 a1).trans h
theorem strings_Cut.meets (n : Nat) : Meets Try.prog (strings_Cut.sp n) := (strings_Cut.sound n).meets
/-! backwater/path.Split -/
abbrev path_Split.ps : List (Ty × Bool) := [(.str, false)]
abbrev path_Split.r : Ty := .tup (.pair (.slX .U .str) (.pair (.int .i64) .unit))
abbrev path_Split.rs : List RV := [.t 2, .t 3]
abbrev path_Split.R : Type := (rtOf path_Split.ps path_Split.r).den
noncomputable def path_Split.d1 (n : Nat) : XC :=
  (.seq (.reg (.op (.take 53 6) none <| .op (.take 2 53) none <| .op (.mv 3 (.c ⟨.int .i64, ((0 : Int) : Int)⟩)) none <| .nil)) <|
  .ret)
noncomputable abbrev path_Split.c1 (n : Nat) : XC := path_Split.d1 n
noncomputable def path_Split.j1 (n : Nat) (x6 : List (List Int)) : Option ((List (List Int)) × Int × Unit) :=
  some (x6, (0 : Int), ())
theorem path_Split.s1 (n : Nat) (x6 : List (List Int)) : ev (path_Split.c1 n) [(6, some ⟨.slX .S .str, x6⟩)] (⟨retK path_Split.rs path_Split.ps path_Split.r, []⟩ : Ks path_Split.R) (retK path_Split.rs path_Split.ps path_Split.r) = path_Split.j1 n x6 := by kernel_rfl
noncomputable def path_Split.H1 (n : Nat) (X : XC) : St → Option path_Split.R := fun st => ghK [.keep [6]] st fun st => ev X st (⟨retK path_Split.rs path_Split.ps path_Split.r, []⟩ : Ks path_Split.R) (retK path_Split.rs path_Split.ps path_Split.r)
noncomputable abbrev path_Split.K1 (n : Nat) : St → Option path_Split.R := path_Split.H1 n (path_Split.c1 n)
noncomputable def path_Split.Kb2 (Kr2 : St → Option path_Split.R) : St → Option path_Split.R := fun st => ghK [.keep [4, 6, 7]] st Kr2
noncomputable def path_Split.db2 (n : Nat) : XC :=
  (.aft (.seq (.seq (.reg (.op (.mv 22 (.t 7)) none <| .nil)) <|
  (.cond (.t 22)
  .skip
  (.pre [.keep [6]] (.exit 0)))) <|
  (.block 1 (.seq (.reg (.op (.mv 8 (.c ⟨.str, (([] : List Int) : List Int)⟩)) none <| .nil)) <|
  (.seq (.reg (.op (.mv 24 (.t 4)) none <| .op (.call (some 25) (strings_Cut.sp n) [.v (.t 24), .v (.c ⟨.str, (([47] : List Int) : List Int)⟩)]) none <| .op (.take 23 25) none <| .op (.ext 26 23 0) none <| .op (.ext 27 23 1) none <| .op (.ext 28 23 2) none <| .op (.mv 8 (.t 26)) none <| .op (.mv 4 (.t 27)) none <| .op (.mv 7 (.t 28)) none <| .nil)) <|
  (.block 2 (.seq (.reg (.op (.mv 34 (.t 8)) none <| .op (.bin 35 .eql (.t 34) (.c ⟨.str, (([46, 46] : List Int) : List Int)⟩)) none <| .op (.mv 33 (.t 35)) none <| .nil)) <|
  (.cond (.t 33)
  (.reg (.op (.take 36 6) none <| .op (.bor 37 6) none <| .op (.len 38 (.t 37) false) none <| .op (.bin 39 .sub (.t 38) (.c ⟨.int .i64, ((1 : Int) : Int)⟩)) none <| .op (.mnx 40 true (.t 39) (.c ⟨.int .i64, ((0 : Int) : Int)⟩)) none <| .op (.slcX 41 36 (.t 40) 1) none <| .op (.take 6 41) none <| .nil))
  (.seq (.reg (.op (.mv 43 (.t 8)) none <| .op (.bin 44 .eql (.t 43) (.c ⟨.str, (([] : List Int) : List Int)⟩)) none <| .op (.mv 45 (.t 44)) none <| .grp 45 false (.op (.mv 46 (.t 8)) (some ([8, 45, 46], [46])) <| .op (.bin 47 .eql (.t 46) (.c ⟨.str, (([46] : List Int) : List Int)⟩)) (some ([45, 46, 47], [47])) <| .nil) 47 48 [46, 47] <| .op (.mv 42 (.t 48)) none <| .nil)) <|
  (.cond (.t 42)
  .skip
  (.seq (.pre [.keep [4, 6, 7, 8]] (.reg (.op (.mv 50 (.t 8)) none <| .op (.call (some 51) (path_Name.sp n) [.v (.t 50)]) none <| .op (.un 52 .not (.t 51)) none <| .op (.mv 49 (.t 52)) none <| .nil))) <|
  (.cond (.t 49)
  (.seq (.reg (.op (.mv 2 (.c ⟨.nil 0, ()⟩)) none <| .op (.mv 3 (.c ⟨.int .i64, ((3 : Int) : Int)⟩)) none <| .nil)) <|
  .ret)
  (.reg (.op (.take 29 6) none <| .op (.mv 30 (.t 8)) none <| .op (.bsl 31 .str [(.t 30)]) none <| .op (.app 32 29 (.t 31) 16 1) none <| .op (.take 6 32) none <| .nil))))))))))))) [.keep [4, 6, 7]])
noncomputable abbrev path_Split.cb2 (n : Nat) : XC := path_Split.db2 n
theorem path_Split.q1_0_r (n : Nat) (X : XC) (x6 : List (List Int)) : path_Split.H1 n X [(6, some ⟨.slX .S .str, x6⟩)] = (ev X [(6, some ⟨.slX .S .str, x6⟩)] (⟨retK path_Split.rs path_Split.ps path_Split.r, []⟩ : Ks path_Split.R) (retK path_Split.rs path_Split.ps path_Split.r) : Option path_Split.R) := by kernel_rfl
theorem path_Split.q1_0 (n : Nat) (x6 : List (List Int)) : path_Split.K1 n [(6, some ⟨.slX .S .str, x6⟩)] = path_Split.j1 n x6 := (path_Split.q1_0_r n (path_Split.c1 n) x6).trans (path_Split.s1 n x6)
noncomputable def path_Split.l2 (n : Nat) : Nat → (List Int) → (List (List Int)) → Bool → Option ((List (List Int)) × Int × Unit)
  | 0, _, _, _ => none
  | k + 1, x4, x6, x7 =>
  bif x7 then ((strings_Cut.f n x4 ([47] : List Int)).bind fun r1 => bif (decide (r1.1 = ([46, 46] : List Int))) then (sliceK 0 (imax (IntKind.i64.wrap ((x6.length : Int) - (1 : Int))) (0 : Int)) x6.length (path_Split.l2 n k r1.2.1 (x6.take ((imax (IntKind.i64.wrap ((x6.length : Int) - (1 : Int))) (0 : Int))).toNat) r1.2.2.1))
  else ((bif (decide (r1.1 = ([] : List Int))) then some true else (some (decide (r1.1 = ([46] : List Int))))).bind fun g2 =>
  bif g2 then (path_Split.l2 n k r1.2.1 x6 r1.2.2.1)
  else ((path_Name.f n r1.1).bind fun r3 => bif (!r3) then (some (([] : List (List Int)), (3 : Int), ()))
  else (appK x6.length ([r1.1] : List (List Int)).length 16 (path_Split.l2 n k r1.2.1 (x6 ++ ([r1.1] : List (List Int))) r1.2.2.1)))))
  else (path_Split.j1 n x6)
theorem path_Split.wb2 (n : Nat) (Kr2 : St → Option path_Split.R) (x4 : List Int) (x6 : List (List Int)) (x7 : Bool) (K1 : St → Option path_Split.R) : ev (path_Split.db2 n) (keepSt [(4, some ⟨.str, x4⟩), (6, some ⟨.slX .S .str, x6⟩), (7, some ⟨.bool, x7⟩)] [4, 6, 7]) (⟨retK path_Split.rs path_Split.ps path_Split.r, [(0, K1)]⟩ : Ks path_Split.R) Kr2 =
  (bif x7 then ((strings_Cut.f n x4 ([47] : List Int)).bind fun r1 => bif (decide (r1.1 = ([46, 46] : List Int))) then (sliceK 0 (imax (IntKind.i64.wrap ((x6.length : Int) - (1 : Int))) (0 : Int)) x6.length (Kr2 [(4, some ⟨.str, r1.2.1⟩), (6, some ⟨.slX .S .str, ((x6.take ((imax (IntKind.i64.wrap ((x6.length : Int) - (1 : Int))) (0 : Int))).toNat) : List (List Int))⟩), (7, some ⟨.bool, r1.2.2.1⟩)]))
  else ((bif (decide (r1.1 = ([] : List Int))) then some true else (some (decide (r1.1 = ([46] : List Int))))).bind fun g2 =>
  bif g2 then (Kr2 [(4, some ⟨.str, r1.2.1⟩), (6, some ⟨.slX .S .str, x6⟩), (7, some ⟨.bool, r1.2.2.1⟩)])
  else ((path_Name.f n r1.1).bind fun r3 => bif (!r3) then (some (([] : List (List Int)), (3 : Int), ()))
  else (appK x6.length ([r1.1] : List (List Int)).length 16 (Kr2 [(4, some ⟨.str, r1.2.1⟩), (6, some ⟨.slX .S .str, ((x6 ++ ([r1.1] : List (List Int))) : List (List Int))⟩), (7, some ⟨.bool, r1.2.2.1⟩)])))))
  else (K1 [(6, some ⟨.slX .S .str, x6⟩)]) : Option path_Split.R) := by kernel_rfl
theorem path_Split.l2_ok (n : Nat) (k : Nat) : ∀ (x4 : List Int) (x6 : List (List Int)) (x7 : Bool), loopEv [4, 6, 7] (fun s K => ev (path_Split.cb2 n) s (⟨retK path_Split.rs path_Split.ps path_Split.r, [(0, (path_Split.K1 n))]⟩ : Ks path_Split.R) K) k [(4, some ⟨.str, x4⟩), (6, some ⟨.slX .S .str, x6⟩), (7, some ⟨.bool, x7⟩)] = path_Split.l2 n k x4 x6 x7 := by
  induction k with
  | zero => intros; rfl
  | succ k ih =>
    intro x4 x6 x7
    exact (path_Split.wb2 n (fun st => loopEv [4, 6, 7] (fun s K => ev (path_Split.cb2 n) s (⟨retK path_Split.rs path_Split.ps path_Split.r, [(0, (path_Split.K1 n))]⟩ : Ks path_Split.R) K) k st) x4 x6 x7 (path_Split.K1 n)).trans (by simp only [path_Split.l2, ih, path_Split.q1_0 n] <;> kernel_rfl)
noncomputable def path_Split.d (n : Nat) (X1 Y2 : XC) : XC :=
  (.seq (.reg (.op (.mv 2 (.c ⟨.nil 0, ()⟩)) none <| .op (.mv 3 (.c ⟨.int .i64, ((0 : Int) : Int)⟩)) none <| .nil)) <|
  (.seq (.reg (.op (.mv 10 (.t 0)) none <| .op (.call (some 11) (strings_CutPrefix.sp n) [.v (.t 10), .v (.c ⟨.str, (([47] : List Int) : List Int)⟩)]) none <| .op (.take 9 11) none <| .op (.ext 12 9 0) none <| .op (.ext 13 9 1) none <| .op (.mv 4 (.t 12)) none <| .op (.mv 5 (.t 13)) none <| .nil)) <|
  (.seq (.seq (.reg (.op (.mv 14 (.t 5)) none <| .op (.un 15 .not (.t 14)) none <| .op (.mv 16 (.t 15)) none <| .grp 16 false (.op (.mv 17 (.t 0)) (some ([0, 16, 17], [17])) <| .op (.len 18 (.t 17) true) (some ([16, 17, 18], [18])) <| .op (.bin 19 .gtr (.t 18) (.c ⟨.int .i64, ((120 : Int) : Int)⟩)) (some ([16, 18, 19], [19])) <| .nil) 19 20 [17, 18, 19] <| .nil)) <|
  (.cond (.t 20)
  (.seq (.pre [.keep []] (.reg (.op (.mv 2 (.c ⟨.nil 0, ()⟩)) none <| .op (.mv 3 (.c ⟨.int .i64, ((3 : Int) : Int)⟩)) none <| .nil))) <|
  .ret)
  .skip)) <|
  (.seq (.pre [.keep [4]] (.reg (.op (.bsl 21 .str []) none <| .op (.take 6 21) none <| .nil))) <|
  (.seq (.aft (.seq (.reg (.op (.mv 7 (.c ⟨.bool, (true : Bool)⟩)) none <| .nil)) <|
  (.block 0 (.pre [.keep [4, 6, 7]] (.loop n [4, 6, 7] Y2)))) [.keep [6]]) X1)))))
noncomputable abbrev path_Split.c (n : Nat) : XC := path_Split.d n (path_Split.c1 n) (path_Split.cb2 n)
noncomputable def path_Split.f (n : Nat) (a0 : List Int) : Option ((List (List Int)) × Int × Unit) :=
  (strings_CutPrefix.f n a0 ([47] : List Int)).bind fun r1 => (bif (!r1.2.1) then some true else (some (decide ((120 : Int) < (a0.length : Int))))).bind fun g2 =>
  bif g2 then (some (([] : List (List Int)), (3 : Int), ()))
  else (path_Split.l2 n n r1.1 ([] : List (List Int)) true)
theorem path_Split.w (n : Nat) (a0 : List Int) (X1 Y2 : XC) : evFn (path_Split.d n X1 Y2) path_Split.rs path_Split.ps path_Split.r (a0, ()) =
  ((strings_CutPrefix.f n a0 ([47] : List Int)).bind fun r1 => (bif (!r1.2.1) then some true else (some (decide ((120 : Int) < (a0.length : Int))))).bind fun g2 =>
  bif g2 then (some (([] : List (List Int)), (3 : Int), ()))
  else (loopEv [4, 6, 7] (fun s K => ev Y2 s (⟨retK path_Split.rs path_Split.ps path_Split.r, [(0, (path_Split.H1 n X1))]⟩ : Ks path_Split.R) K) n [(4, some ⟨.str, r1.1⟩), (6, some ⟨.slX .S .str, (([] : List (List Int)) : List (List Int))⟩), (7, some ⟨.bool, true⟩)]) : Option path_Split.R) := by kernel_rfl
theorem path_Split.ok (n : Nat) (a0 : List Int) : evFn (path_Split.c n) path_Split.rs path_Split.ps path_Split.r (a0, ()) = path_Split.f n a0 := (path_Split.w n a0 (path_Split.c1 n) (path_Split.cb2 n)).trans (by simp only [path_Split.f, path_Split.l2_ok n] <;> kernel_rfl)
noncomputable def path_Split.sp (n : Nat) : FSpec := { f := 11, ps := path_Split.ps, r := path_Split.r, run := fun x => path_Split.f n x.1 }
theorem path_Split.calls (n : Nat) : (path_Split.c n).calls = [strings_CutPrefix.sp n, strings_Cut.sp n, path_Name.sp n] := by kernel_rfl
theorem path_Split.fits (n : Nat) : fnB tab hd Try.f11 (path_Split.c n) path_Split.rs (path_Split.sp n).ps (path_Split.sp n).r = true := by kernel_rfl
theorem path_Split.sound (n : Nat) : Sound Try.prog (path_Split.sp n) := by
  refine fnB_sound tabOk eqFacts mixed (fn := Try.f11) (c := path_Split.c n) (rs := path_Split.rs) (by kernel_rfl) ?_ (path_Split.fits n) ?_
  · rw [path_Split.calls]
    intro s hs
    simp only [List.mem_cons, List.not_mem_nil, or_false] at hs
    rcases hs with rfl | rfl | rfl
    · exact strings_CutPrefix.meets n
    · exact strings_Cut.meets n
    · exact path_Name.meets n
  · rintro ⟨a0, ⟨⟩⟩ y h
    exact (path_Split.ok n a0).trans h
theorem path_Split.meets (n : Nat) : Meets Try.prog (path_Split.sp n) := (path_Split.sound n).meets
/-! backwater/path.Clean -/
abbrev path_Clean.ps : List (Ty × Bool) := [(.str, false)]
abbrev path_Clean.r : Ty := .tup (.pair .str (.pair (.int .i64) .unit))
abbrev path_Clean.rs : List RV := [.t 2, .t 3]
abbrev path_Clean.R : Type := (rtOf path_Clean.ps path_Clean.r).den
noncomputable def path_Clean.d (n : Nat) : XC :=
  (.seq (.reg (.op (.mv 2 (.c ⟨.str, (([] : List Int) : List Int)⟩)) none <| .op (.mv 3 (.c ⟨.int .i64, ((0 : Int) : Int)⟩)) none <| .nil)) <|
  (.seq (.reg (.op (.mv 7 (.t 0)) none <| .op (.call (some 8) (path_Split.sp n) [.v (.t 7)]) none <| .op (.take 6 8) none <| .op (.ext 9 6 0) none <| .op (.ext 10 6 1) none <| .op (.take 4 9) none <| .op (.mv 5 (.t 10)) none <| .nil)) <|
  (.seq (.seq (.reg (.op (.mv 11 (.t 5)) none <| .op (.bin 12 .neq (.t 11) (.c ⟨.int .i64, ((0 : Int) : Int)⟩)) none <| .nil)) <|
  (.cond (.t 12)
  (.seq (.reg (.op (.mv 13 (.t 5)) none <| .op (.mv 2 (.c ⟨.str, (([] : List Int) : List Int)⟩)) none <| .op (.mv 3 (.t 13)) none <| .nil)) <|
  .ret)
  .skip)) <|
  (.seq (.reg (.op (.bor 14 4) none <| .op (.call (some 15) (path_Join.sp n) [.v (.t 14)]) none <| .op (.ext 16 15 0) none <| .op (.ext 17 15 1) none <| .op (.mv 2 (.t 16)) none <| .op (.mv 3 (.t 17)) none <| .nil)) <|
  .ret))))
noncomputable abbrev path_Clean.c (n : Nat) : XC := path_Clean.d n
noncomputable def path_Clean.f (n : Nat) (a0 : List Int) : Option ((List Int) × Int × Unit) :=
  (path_Split.f n a0).bind fun r1 => bif (!decide (r1.2.1 = (0 : Int))) then (some (([] : List Int), r1.2.1, ()))
  else ((path_Join.f n r1.1).bind fun r2 => some (r2.1, r2.2.1, ()))
theorem path_Clean.ok (n : Nat) (a0 : List Int) : evFn (path_Clean.c n) path_Clean.rs path_Clean.ps path_Clean.r (a0, ()) = path_Clean.f n a0 := by kernel_rfl
noncomputable def path_Clean.sp (n : Nat) : FSpec := { f := 13, ps := path_Clean.ps, r := path_Clean.r, run := fun x => path_Clean.f n x.1 }
theorem path_Clean.calls (n : Nat) : (path_Clean.c n).calls = [path_Split.sp n, path_Join.sp n] := by kernel_rfl
theorem path_Clean.fits (n : Nat) : fnB tab hd Try.f13 (path_Clean.c n) path_Clean.rs (path_Clean.sp n).ps (path_Clean.sp n).r = true := by kernel_rfl
theorem path_Clean.sound (n : Nat) : Sound Try.prog (path_Clean.sp n) := by
  refine fnB_sound tabOk eqFacts mixed (fn := Try.f13) (c := path_Clean.c n) (rs := path_Clean.rs) (by kernel_rfl) ?_ (path_Clean.fits n) ?_
  · rw [path_Clean.calls]
    intro s hs
    simp only [List.mem_cons, List.not_mem_nil, or_false] at hs
    rcases hs with rfl | rfl
    · exact path_Split.meets n
    · exact path_Join.meets n
  · rintro ⟨a0, ⟨⟩⟩ y h
    exact (path_Clean.ok n a0).trans h
theorem path_Clean.meets (n : Nat) : Meets Try.prog (path_Clean.sp n) := (path_Clean.sound n).meets
/-! backwater/path.last -/
abbrev path_last.ps : List (Ty × Bool) := [(.str, false)]
abbrev path_last.r : Ty := .tup (.pair (.slB .U false .str) (.pair .str (.pair (.int .i64) .unit)))
abbrev path_last.rs : List RV := [.t 2, .t 3, .t 4]
abbrev path_last.R : Type := (rtOf path_last.ps path_last.r).den
noncomputable def path_last.d (n : Nat) : XC :=
  (.seq (.reg (.op (.mv 2 (.c ⟨.nil 0, ()⟩)) none <| .op (.mv 3 (.c ⟨.str, (([] : List Int) : List Int)⟩)) none <| .op (.mv 4 (.c ⟨.int .i64, ((0 : Int) : Int)⟩)) none <| .nil)) <|
  (.seq (.reg (.op (.mv 9 (.t 0)) none <| .op (.call (some 10) (path_Split.sp n) [.v (.t 9)]) none <| .op (.take 8 10) none <| .op (.ext 11 8 0) none <| .op (.ext 12 8 1) none <| .op (.frz 5 11) none <| .op (.mv 6 (.t 12)) none <| .nil)) <|
  (.seq (.seq (.reg (.op (.mv 13 (.t 6)) none <| .op (.bin 14 .neq (.t 13) (.c ⟨.int .i64, ((0 : Int) : Int)⟩)) none <| .op (.mv 15 (.t 14)) none <| .grp 15 false (.op (.mv 16 (.t 5)) (some ([5, 15, 16], [16])) <| .op (.len 17 (.t 16) false) (some ([15, 16, 17], [17])) <| .op (.bin 18 .eql (.t 17) (.c ⟨.int .i64, ((0 : Int) : Int)⟩)) (some ([15, 17, 18], [18])) <| .nil) 18 19 [16, 17, 18] <| .nil)) <|
  (.cond (.t 19)
  (.seq (.pre [.keep []] (.reg (.op (.mv 2 (.c ⟨.nil 0, ()⟩)) none <| .op (.mv 3 (.c ⟨.str, (([] : List Int) : List Int)⟩)) none <| .op (.mv 4 (.c ⟨.int .i64, ((3 : Int) : Int)⟩)) none <| .nil))) <|
  .ret)
  .skip)) <|
  (.seq (.pre [.keep [5]] (.reg (.op (.mv 20 (.t 5)) none <| .op (.len 21 (.t 20) false) none <| .op (.bin 22 .sub (.t 21) (.c ⟨.int .i64, ((1 : Int) : Int)⟩)) none <| .op (.mv 7 (.t 22)) none <| .nil))) <|
  (.seq (.regD (.op (.mv 23 (.t 5)) (some ([5, 23], [23])) <| .op (.mv 24 (.t 7)) (some ([7, 24], [24])) <| .op (.slc 25 (.t 23) none (some (.t 24)) none 1) (some ([23, 24, 25], [25])) <| .op (.mv 26 (.t 5)) (some ([5, 26], [26])) <| .op (.mv 27 (.t 7)) (some ([7, 27], [27])) <| .op (.idxA 28 (.t 26) (.t 27) 1 0) (some ([26, 27, 28], [28])) <| .op (.ld 29 28 1 false) (some ([28, 29], [29])) <| .op (.mv 2 (.t 25)) (some ([2, 25], [2])) <| .op (.mv 3 (.t 29)) (some ([3, 29], [3])) <| .op (.mv 4 (.c ⟨.int .i64, ((0 : Int) : Int)⟩)) (some ([4], [4])) <| .nil)) <|
  .ret)))))
noncomputable abbrev path_last.c (n : Nat) : XC := path_last.d n
noncomputable def path_last.f (n : Nat) (a0 : List Int) : Option ((List (List Int)) × (List Int) × Int × Unit) :=
  (path_Split.f n a0).bind fun r1 => (bif (!decide (r1.2.1 = (0 : Int))) then some true else (some (decide ((r1.1.length : Int) = (0 : Int))))).bind fun g2 =>
  bif g2 then (some (([] : List (List Int)), ([] : List Int), (3 : Int), ()))
  else (sliceK 0 (IntKind.i64.wrap ((r1.1.length : Int) - (1 : Int))) r1.1.length (idxK r1.1 (IntKind.i64.wrap ((r1.1.length : Int) - (1 : Int))) fun e3 => some ((cut r1.1 0 (IntKind.i64.wrap ((r1.1.length : Int) - (1 : Int)))), e3, (0 : Int), ())))
theorem path_last.ok (n : Nat) (a0 : List Int) : evFn (path_last.c n) path_last.rs path_last.ps path_last.r (a0, ()) = path_last.f n a0 := by kernel_rfl
noncomputable def path_last.sp (n : Nat) : FSpec := { f := 23, ps := path_last.ps, r := path_last.r, run := fun x => path_last.f n x.1 }
theorem path_last.calls (n : Nat) : (path_last.c n).calls = [path_Split.sp n] := by kernel_rfl
theorem path_last.fits (n : Nat) : fnB tab hd Try.f23 (path_last.c n) path_last.rs (path_last.sp n).ps (path_last.sp n).r = true := by kernel_rfl
theorem path_last.sound (n : Nat) : Sound Try.prog (path_last.sp n) := by
  refine fnB_sound tabOk eqFacts mixed (fn := Try.f23) (c := path_last.c n) (rs := path_last.rs) (by kernel_rfl) ?_ (path_last.fits n) ?_
  · rw [path_last.calls]
    intro s hs
    simp only [List.mem_cons, List.not_mem_nil, or_false] at hs
    rcases hs with rfl
    · exact path_Split.meets n
  · rintro ⟨a0, ⟨⟩⟩ y h
    exact (path_last.ok n a0).trans h
theorem path_last.meets (n : Nat) : Meets Try.prog (path_last.sp n) := (path_last.sound n).meets
/-! backwater/path.Dir -/
abbrev path_Dir.ps : List (Ty × Bool) := [(.str, false)]
abbrev path_Dir.r : Ty := .tup (.pair .str (.pair (.int .i64) .unit))
abbrev path_Dir.rs : List RV := [.t 2, .t 3]
abbrev path_Dir.R : Type := (rtOf path_Dir.ps path_Dir.r).den
noncomputable def path_Dir.d (n : Nat) : XC :=
  (.seq (.reg (.op (.mv 2 (.c ⟨.str, (([] : List Int) : List Int)⟩)) none <| .op (.mv 3 (.c ⟨.int .i64, ((0 : Int) : Int)⟩)) none <| .nil)) <|
  (.seq (.reg (.op (.mv 8 (.t 0)) none <| .op (.call (some 9) (path_last.sp n) [.v (.t 8)]) none <| .op (.take 7 9) none <| .op (.ext 10 7 0) none <| .op (.ext 11 7 1) none <| .op (.ext 12 7 2) none <| .op (.mv 4 (.t 10)) none <| .op (.mv 5 (.t 11)) none <| .op (.mv 6 (.t 12)) none <| .nil)) <|
  (.seq (.seq (.reg (.op (.mv 13 (.t 6)) none <| .op (.bin 14 .neq (.t 13) (.c ⟨.int .i64, ((0 : Int) : Int)⟩)) none <| .nil)) <|
  (.cond (.t 14)
  (.seq (.pre [.keep [6]] (.reg (.op (.mv 15 (.t 6)) none <| .op (.mv 2 (.c ⟨.str, (([] : List Int) : List Int)⟩)) none <| .op (.mv 3 (.t 15)) none <| .nil))) <|
  .ret)
  .skip)) <|
  (.seq (.pre [.keep [4]] (.reg (.op (.mv 16 (.t 4)) none <| .op (.call (some 17) (path_Join.sp n) [.v (.t 16)]) none <| .op (.ext 18 17 0) none <| .op (.ext 19 17 1) none <| .op (.mv 2 (.t 18)) none <| .op (.mv 3 (.t 19)) none <| .nil))) <|
  .ret))))
noncomputable abbrev path_Dir.c (n : Nat) : XC := path_Dir.d n
noncomputable def path_Dir.f (n : Nat) (a0 : List Int) : Option ((List Int) × Int × Unit) :=
  (path_last.f n a0).bind fun r1 => bif (!decide (r1.2.2.1 = (0 : Int))) then (some (([] : List Int), r1.2.2.1, ()))
  else ((path_Join.f n r1.1).bind fun r2 => some (r2.1, r2.2.1, ()))
theorem path_Dir.ok (n : Nat) (a0 : List Int) : evFn (path_Dir.c n) path_Dir.rs path_Dir.ps path_Dir.r (a0, ()) = path_Dir.f n a0 := by kernel_rfl
noncomputable def path_Dir.sp (n : Nat) : FSpec := { f := 17, ps := path_Dir.ps, r := path_Dir.r, run := fun x => path_Dir.f n x.1 }
theorem path_Dir.calls (n : Nat) : (path_Dir.c n).calls = [path_last.sp n, path_Join.sp n] := by kernel_rfl
theorem path_Dir.fits (n : Nat) : fnB tab hd Try.f17 (path_Dir.c n) path_Dir.rs (path_Dir.sp n).ps (path_Dir.sp n).r = true := by kernel_rfl
theorem path_Dir.sound (n : Nat) : Sound Try.prog (path_Dir.sp n) := by
  refine fnB_sound tabOk eqFacts mixed (fn := Try.f17) (c := path_Dir.c n) (rs := path_Dir.rs) (by kernel_rfl) ?_ (path_Dir.fits n) ?_
  · rw [path_Dir.calls]
    intro s hs
    simp only [List.mem_cons, List.not_mem_nil, or_false] at hs
    rcases hs with rfl | rfl
    · exact path_last.meets n
    · exact path_Join.meets n
  · rintro ⟨a0, ⟨⟩⟩ y h
    exact (path_Dir.ok n a0).trans h
theorem path_Dir.meets (n : Nat) : Meets Try.prog (path_Dir.sp n) := (path_Dir.sound n).meets
/-! slices.Equal[[]string,string] -/
abbrev slices_Equal.ps : List (Ty × Bool) := [(.slB .U false .str, false), (.slB .U false .str, false)]
abbrev slices_Equal.r : Ty := .bool
abbrev slices_Equal.rs : List RV := [.t 4]
abbrev slices_Equal.R : Type := (rtOf slices_Equal.ps slices_Equal.r).den
noncomputable def slices_Equal.d1 (n : Nat) : XC :=
  (.seq (.reg (.op (.mv 4 (.c ⟨.bool, (true : Bool)⟩)) none <| .nil)) <|
  .ret)
noncomputable abbrev slices_Equal.c1 (n : Nat) : XC := slices_Equal.d1 n
noncomputable def slices_Equal.j1 (n : Nat)  : Option Bool :=
  some true
theorem slices_Equal.s1 (n : Nat)  : ev (slices_Equal.c1 n) [] (⟨retK slices_Equal.rs slices_Equal.ps slices_Equal.r, []⟩ : Ks slices_Equal.R) (retK slices_Equal.rs slices_Equal.ps slices_Equal.r) = slices_Equal.j1 n  := by kernel_rfl
noncomputable def slices_Equal.H1 (n : Nat) (X : XC) : St → Option slices_Equal.R := fun st => ghK [.keep []] st fun st => ev X st (⟨retK slices_Equal.rs slices_Equal.ps slices_Equal.r, []⟩ : Ks slices_Equal.R) (retK slices_Equal.rs slices_Equal.ps slices_Equal.r)
noncomputable abbrev slices_Equal.K1 (n : Nat) : St → Option slices_Equal.R := slices_Equal.H1 n (slices_Equal.c1 n)
noncomputable def slices_Equal.Kb2 (Kr2 : St → Option slices_Equal.R) : St → Option slices_Equal.R := fun st => ghK [.keep [0, 1, 12, 13]] st Kr2
noncomputable def slices_Equal.d3 (n : Nat) : XC :=
  (.aft (.reg (.op (.bin 25 .add (.t 13) (.c ⟨.int .i64, ((1 : Int) : Int)⟩)) none <| .op (.mv 13 (.t 25)) none <| .nil)) [.keep [0, 1, 12, 13]])
noncomputable abbrev slices_Equal.c3 (n : Nat) : XC := slices_Equal.d3 n
theorem slices_Equal.qb2_0 (Kr2 : St → Option slices_Equal.R) (kr2 : (List (List Int)) → (List (List Int)) → Int → Int → Option Bool) (hK2 : ∀ (x0 : List (List Int)) (x1 : List (List Int)) (x12 : Int) (x13 : Int), Kr2 [(0, some ⟨.slB .U false .str, x0⟩), (1, some ⟨.slB .U false .str, x1⟩), (12, some ⟨.int .i64, x12⟩), (13, some ⟨.int .i64, x13⟩)] = kr2 x0 x1 x12 x13) (x0 : List (List Int)) (x1 : List (List Int)) (x12 : Int) (x13 : Int) : slices_Equal.Kb2 Kr2 [(0, some ⟨.slB .U false .str, x0⟩), (1, some ⟨.slB .U false .str, x1⟩), (12, some ⟨.int .i64, x12⟩), (13, some ⟨.int .i64, x13⟩)] = kr2 x0 x1 x12 x13 := (by kernel_rfl : _ = Kr2 [(0, some ⟨.slB .U false .str, x0⟩), (1, some ⟨.slB .U false .str, x1⟩), (12, some ⟨.int .i64, x12⟩), (13, some ⟨.int .i64, x13⟩)]).trans (hK2 x0 x1 x12 x13)
noncomputable def slices_Equal.j3 (n : Nat) (kr2 : (List (List Int)) → (List (List Int)) → Int → Int → Option Bool) (x0 : List (List Int)) (x1 : List (List Int)) (x12 : Int) (x13 : Int) : Option Bool :=
  kr2 x0 x1 x12 (IntKind.i64.wrap (x13 + (1 : Int)))
theorem slices_Equal.w3 (n : Nat) (Kr2 : St → Option slices_Equal.R) (x0 : List (List Int)) (x1 : List (List Int)) (x12 : Int) (x13 : Int) (K1 : St → Option slices_Equal.R) (Kb2 : St → Option slices_Equal.R) : ev (slices_Equal.d3 n) [(0, some ⟨.slB .U false .str, x0⟩), (1, some ⟨.slB .U false .str, x1⟩), (12, some ⟨.int .i64, x12⟩), (13, some ⟨.int .i64, x13⟩)] (⟨retK slices_Equal.rs slices_Equal.ps slices_Equal.r, [(0, K1)]⟩ : Ks slices_Equal.R) Kb2 =
  (Kb2 [(0, some ⟨.slB .U false .str, x0⟩), (1, some ⟨.slB .U false .str, x1⟩), (12, some ⟨.int .i64, x12⟩), (13, some ⟨.int .i64, (IntKind.i64.wrap (x13 + (1 : Int)))⟩)] : Option slices_Equal.R) := by kernel_rfl
theorem slices_Equal.s3 (n : Nat) (Kr2 : St → Option slices_Equal.R) (kr2 : (List (List Int)) → (List (List Int)) → Int → Int → Option Bool) (hK2 : ∀ (x0 : List (List Int)) (x1 : List (List Int)) (x12 : Int) (x13 : Int), Kr2 [(0, some ⟨.slB .U false .str, x0⟩), (1, some ⟨.slB .U false .str, x1⟩), (12, some ⟨.int .i64, x12⟩), (13, some ⟨.int .i64, x13⟩)] = kr2 x0 x1 x12 x13) (x0 : List (List Int)) (x1 : List (List Int)) (x12 : Int) (x13 : Int) : ev (slices_Equal.c3 n) [(0, some ⟨.slB .U false .str, x0⟩), (1, some ⟨.slB .U false .str, x1⟩), (12, some ⟨.int .i64, x12⟩), (13, some ⟨.int .i64, x13⟩)] (⟨retK slices_Equal.rs slices_Equal.ps slices_Equal.r, [(0, (slices_Equal.K1 n))]⟩ : Ks slices_Equal.R) (slices_Equal.Kb2 Kr2) = slices_Equal.j3 n kr2 x0 x1 x12 x13 := (slices_Equal.w3 n Kr2 x0 x1 x12 x13 (slices_Equal.K1 n) (slices_Equal.Kb2 Kr2)).trans (by simp only [slices_Equal.j3, slices_Equal.qb2_0 Kr2 kr2 hK2] <;> kernel_rfl)
noncomputable def slices_Equal.H3 (n : Nat) (K1 : St → Option slices_Equal.R) (Kb2 : St → Option slices_Equal.R) (X : XC) : St → Option slices_Equal.R := fun st => ghK [.keep [0, 1, 12, 13]] st fun st => ev X st (⟨retK slices_Equal.rs slices_Equal.ps slices_Equal.r, [(0, K1)]⟩ : Ks slices_Equal.R) Kb2
noncomputable abbrev slices_Equal.K3 (n : Nat) (Kr2 : St → Option slices_Equal.R) : St → Option slices_Equal.R := slices_Equal.H3 n (slices_Equal.K1 n) (slices_Equal.Kb2 Kr2) (slices_Equal.c3 n)
noncomputable def slices_Equal.db2 (n : Nat) (X3 : XC) : XC :=
  (.aft (.seq (.reg (.op (.bin 14 .lss (.t 13) (.t 12)) none <| .nil)) <|
  (.seq (.cond (.t 14)
  .skip
  (.pre [.keep []] (.exit 0))) <|
  (.seq (.aft (.block 1 (.seq (.reg (.op (.mv 15 (.t 13)) none <| .op (.mv 5 (.t 15)) none <| .nil)) <|
  (.seq (.regD (.op (.mv 16 (.t 0)) (some ([0, 16], [16])) <| .op (.mv 17 (.t 5)) (some ([5, 17], [17])) <| .op (.idxA 18 (.t 16) (.t 17) 1 0) (some ([16, 17, 18], [18])) <| .op (.ld 19 18 1 false) (some ([18, 19], [19])) <| .op (.mv 20 (.t 1)) (some ([1, 20], [20])) <| .op (.mv 21 (.t 5)) (some ([5, 21], [21])) <| .op (.idxA 22 (.t 20) (.t 21) 1 0) (some ([20, 21, 22], [22])) <| .op (.ld 23 22 1 false) (some ([22, 23], [23])) <| .op (.bin 24 .neq (.t 19) (.t 23)) (some ([19, 23, 24], [24])) <| .nil)) <|
  (.cond (.t 24)
  (.seq (.pre [.keep []] (.reg (.op (.mv 4 (.c ⟨.bool, (false : Bool)⟩)) none <| .nil))) <|
  .ret)
  .skip)))) [.keep [0, 1, 12, 13]]) X3))) [.keep [0, 1, 12, 13]])
noncomputable abbrev slices_Equal.cb2 (n : Nat) : XC := slices_Equal.db2 n (slices_Equal.c3 n)
theorem slices_Equal.q1_0_r (n : Nat) (X : XC)  : slices_Equal.H1 n X [] = (ev X [] (⟨retK slices_Equal.rs slices_Equal.ps slices_Equal.r, []⟩ : Ks slices_Equal.R) (retK slices_Equal.rs slices_Equal.ps slices_Equal.r) : Option slices_Equal.R) := by kernel_rfl
theorem slices_Equal.q1_0 (n : Nat)  : slices_Equal.K1 n [] = slices_Equal.j1 n  := (slices_Equal.q1_0_r n (slices_Equal.c1 n) ).trans (slices_Equal.s1 n )
noncomputable def slices_Equal.l2 (n : Nat) : Nat → (List (List Int)) → (List (List Int)) → Int → Int → Option Bool
  | 0, _, _, _, _ => none
  | k + 1, x0, x1, x12, x13 =>
  bif (decide (x13 < x12)) then (idxK x0 x13 fun e1 => idxK x1 x13 fun e2 => bif (!decide (e1 = e2)) then (some false)
  else (slices_Equal.j3 n (slices_Equal.l2 n k) x0 x1 x12 x13))
  else (slices_Equal.j1 n )
theorem slices_Equal.wb2 (n : Nat) (Kr2 : St → Option slices_Equal.R) (x0 : List (List Int)) (x1 : List (List Int)) (x12 : Int) (x13 : Int) (K1 : St → Option slices_Equal.R) (X3 : XC) : ev (slices_Equal.db2 n X3) (keepSt [(0, some ⟨.slB .U false .str, x0⟩), (1, some ⟨.slB .U false .str, x1⟩), (12, some ⟨.int .i64, x12⟩), (13, some ⟨.int .i64, x13⟩)] [0, 1, 12, 13]) (⟨retK slices_Equal.rs slices_Equal.ps slices_Equal.r, [(0, K1)]⟩ : Ks slices_Equal.R) Kr2 =
  (bif (decide (x13 < x12)) then (idxK x0 x13 fun e1 => idxK x1 x13 fun e2 => bif (!decide (e1 = e2)) then (some false)
  else (ev X3 [(0, some ⟨.slB .U false .str, x0⟩), (1, some ⟨.slB .U false .str, x1⟩), (12, some ⟨.int .i64, x12⟩), (13, some ⟨.int .i64, x13⟩)] (⟨retK slices_Equal.rs slices_Equal.ps slices_Equal.r, [(0, K1)]⟩ : Ks slices_Equal.R) (slices_Equal.Kb2 Kr2)))
  else (K1 []) : Option slices_Equal.R) := by kernel_rfl
theorem slices_Equal.l2_ok (n : Nat) (k : Nat) : ∀ (x0 : List (List Int)) (x1 : List (List Int)) (x12 : Int) (x13 : Int), loopEv [0, 1, 12, 13] (fun s K => ev (slices_Equal.cb2 n) s (⟨retK slices_Equal.rs slices_Equal.ps slices_Equal.r, [(0, (slices_Equal.K1 n))]⟩ : Ks slices_Equal.R) K) k [(0, some ⟨.slB .U false .str, x0⟩), (1, some ⟨.slB .U false .str, x1⟩), (12, some ⟨.int .i64, x12⟩), (13, some ⟨.int .i64, x13⟩)] = slices_Equal.l2 n k x0 x1 x12 x13 := by
  induction k with
  | zero => intros; rfl
  | succ k ih =>
    intro x0 x1 x12 x13
    exact (slices_Equal.wb2 n (fun st => loopEv [0, 1, 12, 13] (fun s K => ev (slices_Equal.cb2 n) s (⟨retK slices_Equal.rs slices_Equal.ps slices_Equal.r, [(0, (slices_Equal.K1 n))]⟩ : Ks slices_Equal.R) K) k st) x0 x1 x12 x13 (slices_Equal.K1 n) (slices_Equal.c3 n)).trans (by simp only [slices_Equal.l2, slices_Equal.s3 n (fun st => loopEv [0, 1, 12, 13] (fun s K => ev (slices_Equal.cb2 n) s (⟨retK slices_Equal.rs slices_Equal.ps slices_Equal.r, [(0, (slices_Equal.K1 n))]⟩ : Ks slices_Equal.R) K) k st) (slices_Equal.l2 n k) ih, slices_Equal.q1_0 n] <;> kernel_rfl)
noncomputable def slices_Equal.d (n : Nat) (X1 Y2 : XC) : XC :=
  (.seq (.reg (.op (.mv 4 (.c ⟨.bool, (false : Bool)⟩)) none <| .nil)) <|
  (.seq (.seq (.reg (.op (.mv 6 (.t 0)) none <| .op (.len 7 (.t 6) false) none <| .op (.mv 8 (.t 1)) none <| .op (.len 9 (.t 8) false) none <| .op (.bin 10 .neq (.t 7) (.t 9)) none <| .nil)) <|
  (.cond (.t 10)
  (.seq (.reg (.op (.mv 4 (.c ⟨.bool, (false : Bool)⟩)) none <| .nil)) <|
  .ret)
  .skip)) <|
  (.seq (.aft (.seq (.reg (.op (.mv 11 (.t 0)) none <| .op (.len 12 (.t 11) false) none <| .op (.mv 13 (.c ⟨.int .i64, ((0 : Int) : Int)⟩)) none <| .nil)) <|
  (.block 0 (.pre [.keep [0, 1, 12, 13]] (.loop n [0, 1, 12, 13] Y2)))) [.keep []]) X1)))
noncomputable abbrev slices_Equal.c (n : Nat) : XC := slices_Equal.d n (slices_Equal.c1 n) (slices_Equal.cb2 n)
noncomputable def slices_Equal.f (n : Nat) (a0 : List (List Int)) (a1 : List (List Int)) : Option Bool :=
  bif (!decide ((a0.length : Int) = (a1.length : Int))) then (some false)
  else (slices_Equal.l2 n n a0 a1 (a0.length : Int) (0 : Int))
theorem slices_Equal.w (n : Nat) (a0 : List (List Int)) (a1 : List (List Int)) (X1 Y2 : XC) : evFn (slices_Equal.d n X1 Y2) slices_Equal.rs slices_Equal.ps slices_Equal.r (a0, a1, ()) =
  (bif (!decide ((a0.length : Int) = (a1.length : Int))) then (some false)
  else (loopEv [0, 1, 12, 13] (fun s K => ev Y2 s (⟨retK slices_Equal.rs slices_Equal.ps slices_Equal.r, [(0, (slices_Equal.H1 n X1))]⟩ : Ks slices_Equal.R) K) n [(0, some ⟨.slB .U false .str, a0⟩), (1, some ⟨.slB .U false .str, a1⟩), (12, some ⟨.int .i64, (a0.length : Int)⟩), (13, some ⟨.int .i64, (0 : Int)⟩)]) : Option slices_Equal.R) := by kernel_rfl
theorem slices_Equal.ok (n : Nat) (a0 : List (List Int)) (a1 : List (List Int)) : evFn (slices_Equal.c n) slices_Equal.rs slices_Equal.ps slices_Equal.r (a0, a1, ()) = slices_Equal.f n a0 a1 := (slices_Equal.w n a0 a1 (slices_Equal.c1 n) (slices_Equal.cb2 n)).trans (by simp only [slices_Equal.f, slices_Equal.l2_ok n] <;> kernel_rfl)
noncomputable def slices_Equal.sp (n : Nat) : FSpec := { f := 22, ps := slices_Equal.ps, r := slices_Equal.r, run := fun x => slices_Equal.f n x.1 x.2.1 }
theorem slices_Equal.calls (n : Nat) : (slices_Equal.c n).calls = [] := by kernel_rfl
theorem slices_Equal.fits (n : Nat) : fnB tab hd Try.f22 (slices_Equal.c n) slices_Equal.rs (slices_Equal.sp n).ps (slices_Equal.sp n).r = true := by kernel_rfl
theorem slices_Equal.sound (n : Nat) : Sound Try.prog (slices_Equal.sp n) := by
  refine fnB_sound tabOk eqFacts mixed (fn := Try.f22) (c := slices_Equal.c n) (rs := slices_Equal.rs) (by kernel_rfl) ?_ (slices_Equal.fits n) ?_
  · rw [slices_Equal.calls]
    intro s hs; cases hs
  · rintro ⟨a0, a1, ⟨⟩⟩ y h
    exact (slices_Equal.ok n a0 a1).trans h
theorem slices_Equal.meets (n : Nat) : Meets Try.prog (slices_Equal.sp n) := (slices_Equal.sound n).meets
/-! backwater/path.Same -/
abbrev path_Same.ps : List (Ty × Bool) := [(.slB .U false .str, false), (.slB .U false .str, false)]
abbrev path_Same.r : Ty := .bool
abbrev path_Same.rs : List RV := [.t 4]
abbrev path_Same.R : Type := (rtOf path_Same.ps path_Same.r).den
noncomputable def path_Same.d (n : Nat) : XC :=
  (.seq (.reg (.op (.mv 4 (.c ⟨.bool, (false : Bool)⟩)) none <| .nil)) <|
  (.seq (.reg (.op (.mv 5 (.t 0)) none <| .op (.mv 6 (.t 1)) none <| .op (.call (some 7) (slices_Equal.sp n) [.v (.t 5), .v (.t 6)]) none <| .op (.mv 4 (.t 7)) none <| .nil)) <|
  .ret))
noncomputable abbrev path_Same.c (n : Nat) : XC := path_Same.d n
noncomputable def path_Same.f (n : Nat) (a0 : List (List Int)) (a1 : List (List Int)) : Option Bool :=
  (slices_Equal.f n a0 a1).bind fun r1 => some r1
theorem path_Same.ok (n : Nat) (a0 : List (List Int)) (a1 : List (List Int)) : evFn (path_Same.c n) path_Same.rs path_Same.ps path_Same.r (a0, a1, ()) = path_Same.f n a0 a1 := by kernel_rfl
noncomputable def path_Same.sp (n : Nat) : FSpec := { f := 12, ps := path_Same.ps, r := path_Same.r, run := fun x => path_Same.f n x.1 x.2.1 }
theorem path_Same.calls (n : Nat) : (path_Same.c n).calls = [slices_Equal.sp n] := by kernel_rfl
theorem path_Same.fits (n : Nat) : fnB tab hd Try.f12 (path_Same.c n) path_Same.rs (path_Same.sp n).ps (path_Same.sp n).r = true := by kernel_rfl
theorem path_Same.sound (n : Nat) : Sound Try.prog (path_Same.sp n) := by
  refine fnB_sound tabOk eqFacts mixed (fn := Try.f12) (c := path_Same.c n) (rs := path_Same.rs) (by kernel_rfl) ?_ (path_Same.fits n) ?_
  · rw [path_Same.calls]
    intro s hs
    simp only [List.mem_cons, List.not_mem_nil, or_false] at hs
    rcases hs with rfl
    · exact slices_Equal.meets n
  · rintro ⟨a0, a1, ⟨⟩⟩ y h
    exact (path_Same.ok n a0 a1).trans h
theorem path_Same.meets (n : Nat) : Meets Try.prog (path_Same.sp n) := (path_Same.sound n).meets
/-! backwater/path.Below -/
abbrev path_Below.ps : List (Ty × Bool) := [(.str, false), (.str, false)]
abbrev path_Below.r : Ty := .bool
abbrev path_Below.rs : List RV := [.t 4]
abbrev path_Below.R : Type := (rtOf path_Below.ps path_Below.r).den
noncomputable def path_Below.d (n : Nat) : XC :=
  (.seq (.reg (.op (.mv 4 (.c ⟨.bool, (false : Bool)⟩)) none <| .nil)) <|
  (.seq (.reg (.op (.mv 10 (.t 0)) none <| .op (.call (some 11) (path_Split.sp n) [.v (.t 10)]) none <| .op (.take 9 11) none <| .op (.ext 12 9 0) none <| .op (.ext 13 9 1) none <| .op (.take 5 12) none <| .op (.mv 6 (.t 13)) none <| .nil)) <|
  (.seq (.reg (.op (.mv 15 (.t 1)) none <| .op (.call (some 16) (path_Split.sp n) [.v (.t 15)]) none <| .op (.take 14 16) none <| .op (.ext 17 14 0) none <| .op (.ext 18 14 1) none <| .op (.take 7 17) none <| .op (.mv 8 (.t 18)) none <| .nil)) <|
  (.seq (.seq (.pre [.keep [5, 6, 7, 8]] (.reg (.op (.mv 19 (.t 6)) none <| .op (.bin 20 .neq (.t 19) (.c ⟨.int .i64, ((0 : Int) : Int)⟩)) none <| .op (.mv 21 (.t 20)) none <| .grp 21 false (.op (.mv 22 (.t 8)) (some ([8, 21, 22], [22])) <| .op (.bin 23 .neq (.t 22) (.c ⟨.int .i64, ((0 : Int) : Int)⟩)) (some ([21, 22, 23], [23])) <| .nil) 23 24 [22, 23] <| .op (.mv 25 (.t 24)) none <| .grp 25 false (.op (.bor 26 5) (some ([5, 25, 26], [26])) <| .op (.len 27 (.t 26) false) (some ([5, 25, 26, 27], [27])) <| .op (.bor 28 7) (some ([7, 25, 28], [28])) <| .op (.len 29 (.t 28) false) (some ([7, 25, 28, 29], [29])) <| .op (.bin 30 .leq (.t 27) (.t 29)) (some ([25, 27, 29, 30], [30])) <| .nil) 30 31 [26, 27, 28, 29, 30] <| .nil))) <|
  (.cond (.t 31)
  (.seq (.reg (.op (.mv 4 (.c ⟨.bool, (false : Bool)⟩)) none <| .nil)) <|
  .ret)
  .skip)) <|
  (.seq (.reg (.op (.bor 32 5) none <| .op (.bor 33 7) none <| .op (.len 34 (.t 33) false) none <| .op (.slc 35 (.t 32) none (some (.t 34)) none 1) none <| .op (.bor 36 7) none <| .op (.call (some 37) (path_Same.sp n) [.v (.t 35), .v (.t 36)]) none <| .op (.mv 4 (.t 37)) none <| .nil)) <|
  .ret)))))
noncomputable abbrev path_Below.c (n : Nat) : XC := path_Below.d n
noncomputable def path_Below.f (n : Nat) (a0 : List Int) (a1 : List Int) : Option Bool :=
  (path_Split.f n a0).bind fun r1 => (path_Split.f n a1).bind fun r2 => (bif (!decide (r1.2.1 = (0 : Int))) then some true else (some (!decide (r2.2.1 = (0 : Int))))).bind fun g3 =>
  (bif g3 then some true else (some (decide ((r1.1.length : Int) ≤ (r2.1.length : Int))))).bind fun g4 =>
  bif g4 then (some false)
  else (sliceK 0 (r2.1.length : Int) r1.1.length ((path_Same.f n (cut r1.1 0 (r2.1.length : Int)) r2.1).bind fun r5 => some r5))
theorem path_Below.ok (n : Nat) (a0 : List Int) (a1 : List Int) : evFn (path_Below.c n) path_Below.rs path_Below.ps path_Below.r (a0, a1, ()) = path_Below.f n a0 a1 := by kernel_rfl
noncomputable def path_Below.sp (n : Nat) : FSpec := { f := 14, ps := path_Below.ps, r := path_Below.r, run := fun x => path_Below.f n x.1 x.2.1 }
theorem path_Below.calls (n : Nat) : (path_Below.c n).calls = [path_Split.sp n, path_Split.sp n, path_Same.sp n] := by kernel_rfl
theorem path_Below.fits (n : Nat) : fnB tab hd Try.f14 (path_Below.c n) path_Below.rs (path_Below.sp n).ps (path_Below.sp n).r = true := by kernel_rfl
theorem path_Below.sound (n : Nat) : Sound Try.prog (path_Below.sp n) := by
  refine fnB_sound tabOk eqFacts mixed (fn := Try.f14) (c := path_Below.c n) (rs := path_Below.rs) (by kernel_rfl) ?_ (path_Below.fits n) ?_
  · rw [path_Below.calls]
    intro s hs
    simp only [List.mem_cons, List.not_mem_nil, or_false] at hs
    rcases hs with rfl | rfl | rfl
    · exact path_Split.meets n
    · exact path_Split.meets n
    · exact path_Same.meets n
  · rintro ⟨a0, a1, ⟨⟩⟩ y h
    exact (path_Below.ok n a0 a1).trans h
theorem path_Below.meets (n : Nat) : Meets Try.prog (path_Below.sp n) := (path_Below.sound n).meets
/-! backwater/backwaterlaw02.live -/
abbrev law02_live.ps : List (Ty × Bool) := []
abbrev law02_live.r : Ty := .bool
abbrev law02_live.rs : List RV := [.t 0]
abbrev law02_live.R : Type := (rtOf law02_live.ps law02_live.r).den
noncomputable def law02_live.d (n : Nat) : XC :=
  (.seq (.reg (.op (.mv 0 (.c ⟨.bool, (false : Bool)⟩)) none <| .nil)) <|
  (.seq (.reg (.op (.call (some 6) (path_Clean.sp n) [.v (.c ⟨.str, (([47, 97, 47, 46, 47, 98, 47, 47, 46, 46, 47, 99] : List Int) : List Int)⟩)]) none <| .op (.take 5 6) none <| .op (.ext 7 5 0) none <| .op (.ext 8 5 1) none <| .op (.mv 1 (.t 7)) none <| .op (.mv 2 (.t 8)) none <| .nil)) <|
  (.seq (.reg (.op (.call (some 10) (path_Dir.sp n) [.v (.c ⟨.str, (([47, 97, 47, 98] : List Int) : List Int)⟩)]) none <| .op (.take 9 10) none <| .op (.ext 11 9 0) none <| .op (.ext 12 9 1) none <| .op (.mv 3 (.t 11)) none <| .op (.mv 4 (.t 12)) none <| .nil)) <|
  (.seq (.reg (.op (.mv 13 (.t 2)) none <| .op (.bin 14 .eql (.t 13) (.c ⟨.int .i64, ((0 : Int) : Int)⟩)) none <| .op (.mv 15 (.t 14)) none <| .grp 15 true (.op (.mv 16 (.t 1)) (some ([1, 15, 16], [16])) <| .op (.bin 17 .eql (.t 16) (.c ⟨.str, (([47, 97, 47, 99] : List Int) : List Int)⟩)) (some ([15, 16, 17], [17])) <| .nil) 17 18 [16, 17] <| .op (.mv 19 (.t 18)) none <| .grp 19 true (.op (.mv 20 (.t 4)) (some ([4, 19, 20], [20])) <| .op (.bin 21 .eql (.t 20) (.c ⟨.int .i64, ((0 : Int) : Int)⟩)) (some ([19, 20, 21], [21])) <| .nil) 21 22 [20, 21] <| .op (.mv 23 (.t 22)) none <| .grp 23 true (.op (.mv 24 (.t 3)) (some ([3, 23, 24], [24])) <| .op (.bin 25 .eql (.t 24) (.c ⟨.str, (([47, 97] : List Int) : List Int)⟩)) (some ([23, 24, 25], [25])) <| .nil) 25 26 [24, 25] <| .op (.mv 27 (.t 26)) none <| .grp 27 true (.op (.call (some 28) (path_Name.sp n) [.v (.c ⟨.str, (([97] : List Int) : List Int)⟩)]) (some ([27, 28], [28])) <| .nil) 28 29 [28] <| .op (.mv 30 (.t 29)) none <| .grp 30 true (.op (.call (some 31) (path_Below.sp n) [.v (.c ⟨.str, (([47, 97, 47, 98] : List Int) : List Int)⟩), .v (.c ⟨.str, (([47, 97] : List Int) : List Int)⟩)]) (some ([30, 31], [31])) <| .nil) 31 32 [31] <| .op (.mv 0 (.t 32)) none <| .nil)) <|
  .ret))))
noncomputable abbrev law02_live.c (n : Nat) : XC := law02_live.d n
noncomputable def law02_live.f (n : Nat)  : Option Bool :=
  (path_Clean.f n ([47, 97, 47, 46, 47, 98, 47, 47, 46, 46, 47, 99] : List Int)).bind fun r1 => (path_Dir.f n ([47, 97, 47, 98] : List Int)).bind fun r2 => (bif (decide (r1.2.1 = (0 : Int))) then (some (decide (r1.1 = ([47, 97, 47, 99] : List Int)))) else some false).bind fun g3 =>
  (bif g3 then (some (decide (r2.2.1 = (0 : Int)))) else some false).bind fun g4 =>
  (bif g4 then (some (decide (r2.1 = ([47, 97] : List Int)))) else some false).bind fun g5 =>
  (bif g5 then ((path_Name.f n ([97] : List Int)).bind fun r7 => some r7) else some false).bind fun g6 =>
  (bif g6 then ((path_Below.f n ([47, 97, 47, 98] : List Int) ([47, 97] : List Int)).bind fun r9 => some r9) else some false).bind fun g8 =>
  some g8
theorem law02_live.ok (n : Nat)  : evFn (law02_live.c n) law02_live.rs law02_live.ps law02_live.r () = law02_live.f n  := by kernel_rfl
noncomputable def law02_live.sp (n : Nat) : FSpec := { f := 10, ps := law02_live.ps, r := law02_live.r, run := fun x => law02_live.f n  }
theorem law02_live.calls (n : Nat) : (law02_live.c n).calls = [path_Clean.sp n, path_Dir.sp n, path_Name.sp n, path_Below.sp n] := by kernel_rfl
theorem law02_live.fits (n : Nat) : fnB tab hd Try.f10 (law02_live.c n) law02_live.rs (law02_live.sp n).ps (law02_live.sp n).r = true := by kernel_rfl
theorem law02_live.sound (n : Nat) : Sound Try.prog (law02_live.sp n) := by
  refine fnB_sound tabOk eqFacts mixed (fn := Try.f10) (c := law02_live.c n) (rs := law02_live.rs) (by kernel_rfl) ?_ (law02_live.fits n) ?_
  · rw [law02_live.calls]
    intro s hs
    simp only [List.mem_cons, List.not_mem_nil, or_false] at hs
    rcases hs with rfl | rfl | rfl | rfl
    · exact path_Clean.meets n
    · exact path_Dir.meets n
    · exact path_Name.meets n
    · exact path_Below.meets n
  · rintro ⟨⟩ y h
    exact (law02_live.ok n ).trans h
theorem law02_live.meets (n : Nat) : Meets Try.prog (law02_live.sp n) := (law02_live.sound n).meets
/-! backwater/backwaterlaw02.PathJoins -/
abbrev law02_PathJoins.ps : List (Ty × Bool) := [(.slB .U false .str, false)]
abbrev law02_PathJoins.r : Ty := .bool
abbrev law02_PathJoins.rs : List RV := [.t 2]
abbrev law02_PathJoins.R : Type := (rtOf law02_PathJoins.ps law02_PathJoins.r).den
noncomputable def law02_PathJoins.d1 (n : Nat) : XC :=
  (.seq (.reg (.op (.mv 13 (.t 0)) none <| .op (.call (some 14) (path_Join.sp n) [.v (.t 13)]) none <| .op (.take 12 14) none <| .op (.ext 15 12 0) none <| .op (.ext 16 12 1) none <| .op (.mv 3 (.t 15)) none <| .op (.mv 4 (.t 16)) none <| .nil)) <|
  (.seq (.reg (.op (.mv 18 (.t 0)) none <| .op (.call (some 19) (r02_Join.sp n) [.v (.t 18)]) none <| .op (.take 17 19) none <| .op (.ext 20 17 0) none <| .op (.ext 21 17 1) none <| .op (.mv 5 (.t 20)) none <| .op (.mv 6 (.t 21)) none <| .nil)) <|
  (.seq (.reg (.op (.call (some 22) (law02_live.sp n) []) none <| .op (.mv 23 (.t 22)) none <| .grp 23 true (.op (.mv 24 (.t 3)) (some ([3, 23, 24], [24])) <| .op (.mv 25 (.t 5)) (some ([5, 23, 25], [25])) <| .op (.bin 26 .eql (.t 24) (.t 25)) (some ([23, 24, 25, 26], [26])) <| .nil) 26 27 [24, 25, 26] <| .op (.mv 28 (.t 27)) none <| .grp 28 true (.op (.mv 29 (.t 4)) (some ([4, 28, 29], [29])) <| .op (.mv 30 (.t 6)) (some ([6, 28, 30], [30])) <| .op (.bin 31 .eql (.t 29) (.t 30)) (some ([28, 29, 30, 31], [31])) <| .nil) 31 32 [29, 30, 31] <| .op (.mv 2 (.t 32)) none <| .nil)) <|
  .ret)))
noncomputable abbrev law02_PathJoins.c1 (n : Nat) : XC := law02_PathJoins.d1 n
noncomputable def law02_PathJoins.j1 (n : Nat) (x0 : List (List Int)) : Option Bool :=
  (path_Join.f n x0).bind fun r1 => (r02_Join.f n x0).bind fun r2 => (law02_live.f n).bind fun r3 => (bif r3 then (some (decide (r1.1 = r2.1))) else some false).bind fun g4 =>
  (bif g4 then (some (decide (r1.2.1 = r2.2.1))) else some false).bind fun g5 =>
  some g5
theorem law02_PathJoins.s1 (n : Nat) (x0 : List (List Int)) : ev (law02_PathJoins.c1 n) [(0, some ⟨.slB .U false .str, x0⟩)] (⟨retK law02_PathJoins.rs law02_PathJoins.ps law02_PathJoins.r, []⟩ : Ks law02_PathJoins.R) (retK law02_PathJoins.rs law02_PathJoins.ps law02_PathJoins.r) = law02_PathJoins.j1 n x0 := by kernel_rfl
noncomputable def law02_PathJoins.H1 (n : Nat) (X : XC) : St → Option law02_PathJoins.R := fun st => ghK [.keep [0]] st fun st => ev X st (⟨retK law02_PathJoins.rs law02_PathJoins.ps law02_PathJoins.r, []⟩ : Ks law02_PathJoins.R) (retK law02_PathJoins.rs law02_PathJoins.ps law02_PathJoins.r)
noncomputable abbrev law02_PathJoins.K1 (n : Nat) : St → Option law02_PathJoins.R := law02_PathJoins.H1 n (law02_PathJoins.c1 n)
noncomputable def law02_PathJoins.d (n : Nat) (X1 : XC) : XC :=
  (.seq (.reg (.op (.mv 2 (.c ⟨.bool, (false : Bool)⟩)) none <| .nil)) <|
  (.seq (.aft (.seq (.reg (.op (.mv 7 (.t 0)) none <| .op (.len 8 (.t 7) false) none <| .op (.bin 9 .gtr (.t 8) (.c ⟨.int .i64, ((200 : Int) : Int)⟩)) none <| .nil)) <|
  (.cond (.t 9)
  (.reg (.op (.mv 10 (.t 0)) none <| .op (.slc 11 (.t 10) none (some (.c ⟨.int .i64, ((200 : Int) : Int)⟩)) none 1) none <| .op (.mv 0 (.t 11)) none <| .nil))
  .skip)) [.keep [0]]) X1))
noncomputable abbrev law02_PathJoins.c (n : Nat) : XC := law02_PathJoins.d n (law02_PathJoins.c1 n)
noncomputable def law02_PathJoins.f (n : Nat) (a0 : List (List Int)) : Option Bool :=
  bif (decide ((200 : Int) < (a0.length : Int))) then (sliceK 0 (200 : Int) a0.length (law02_PathJoins.j1 n (cut a0 0 (200 : Int))))
  else (law02_PathJoins.j1 n a0)
theorem law02_PathJoins.w (n : Nat) (a0 : List (List Int)) (X1 : XC) : evFn (law02_PathJoins.d n X1) law02_PathJoins.rs law02_PathJoins.ps law02_PathJoins.r (a0, ()) =
  (bif (decide ((200 : Int) < (a0.length : Int))) then (sliceK 0 (200 : Int) a0.length (ev X1 [(0, some ⟨.slB .U false .str, ((cut a0 0 (200 : Int)) : List (List Int))⟩)] (⟨retK law02_PathJoins.rs law02_PathJoins.ps law02_PathJoins.r, []⟩ : Ks law02_PathJoins.R) (retK law02_PathJoins.rs law02_PathJoins.ps law02_PathJoins.r)))
  else (ev X1 [(0, some ⟨.slB .U false .str, a0⟩)] (⟨retK law02_PathJoins.rs law02_PathJoins.ps law02_PathJoins.r, []⟩ : Ks law02_PathJoins.R) (retK law02_PathJoins.rs law02_PathJoins.ps law02_PathJoins.r)) : Option law02_PathJoins.R) := by kernel_rfl
theorem law02_PathJoins.ok (n : Nat) (a0 : List (List Int)) : evFn (law02_PathJoins.c n) law02_PathJoins.rs law02_PathJoins.ps law02_PathJoins.r (a0, ()) = law02_PathJoins.f n a0 := (law02_PathJoins.w n a0 (law02_PathJoins.c1 n)).trans (by simp only [law02_PathJoins.f, law02_PathJoins.s1 n] <;> kernel_rfl)
noncomputable def law02_PathJoins.sp (n : Nat) : FSpec := { f := 3, ps := law02_PathJoins.ps, r := law02_PathJoins.r, run := fun x => law02_PathJoins.f n x.1 }
theorem law02_PathJoins.calls (n : Nat) : (law02_PathJoins.c n).calls = [path_Join.sp n, r02_Join.sp n, law02_live.sp n] := by kernel_rfl
theorem law02_PathJoins.fits (n : Nat) : fnB tab hd Try.f3 (law02_PathJoins.c n) law02_PathJoins.rs (law02_PathJoins.sp n).ps (law02_PathJoins.sp n).r = true := by kernel_rfl
theorem law02_PathJoins.sound (n : Nat) : Sound Try.prog (law02_PathJoins.sp n) := by
  refine fnB_sound tabOk eqFacts mixed (fn := Try.f3) (c := law02_PathJoins.c n) (rs := law02_PathJoins.rs) (by kernel_rfl) ?_ (law02_PathJoins.fits n) ?_
  · rw [law02_PathJoins.calls]
    intro s hs
    simp only [List.mem_cons, List.not_mem_nil, or_false] at hs
    rcases hs with rfl | rfl | rfl
    · exact path_Join.meets n
    · exact r02_Join.meets n
    · exact law02_live.meets n
  · rintro ⟨a0, ⟨⟩⟩ y h
    exact (law02_PathJoins.ok n a0).trans h
theorem law02_PathJoins.meets (n : Nat) : Meets Try.prog (law02_PathJoins.sp n) := (law02_PathJoins.sound n).meets
/-! backwater/backwaterlaw02.PathClean -/
abbrev law02_PathClean.ps : List (Ty × Bool) := [(.str, false), (.slB .U false .str, false)]
abbrev law02_PathClean.r : Ty := .bool
abbrev law02_PathClean.rs : List RV := [.t 4]
abbrev law02_PathClean.R : Type := (rtOf law02_PathClean.ps law02_PathClean.r).den
noncomputable def law02_PathClean.d2 (n : Nat) : XC :=
  (.seq (.reg (.op (.mv 43 (.t 0)) none <| .op (.call (some 44) (path_Clean.sp n) [.v (.t 43)]) none <| .op (.take 42 44) none <| .op (.ext 45 42 0) none <| .op (.ext 46 42 1) none <| .op (.mv 9 (.t 45)) none <| .op (.mv 10 (.t 46)) none <| .nil)) <|
  (.seq (.seq (.reg (.op (.mv 47 (.t 10)) none <| .op (.bin 48 .neq (.t 47) (.c ⟨.int .i64, ((0 : Int) : Int)⟩)) none <| .nil)) <|
  (.cond (.t 48)
  (.seq (.reg (.op (.call (some 49) (law02_live.sp n) []) none <| .op (.mv 50 (.t 49)) none <| .grp 50 true (.op (.mv 51 (.t 9)) (some ([9, 50, 51], [51])) <| .op (.bin 52 .eql (.t 51) (.c ⟨.str, (([] : List Int) : List Int)⟩)) (some ([50, 51, 52], [52])) <| .nil) 52 53 [51, 52] <| .op (.mv 4 (.t 53)) none <| .nil)) <|
  .ret)
  .skip)) <|
  (.seq (.reg (.op (.mv 55 (.t 9)) none <| .op (.call (some 56) (path_Clean.sp n) [.v (.t 55)]) none <| .op (.take 54 56) none <| .op (.ext 57 54 0) none <| .op (.ext 58 54 1) none <| .op (.mv 11 (.t 57)) none <| .op (.mv 12 (.t 58)) none <| .nil)) <|
  (.seq (.pre [.keep [0, 9, 11, 12]] (.reg (.op (.mv 60 (.t 0)) none <| .op (.call (some 61) (path_Split.sp n) [.v (.t 60)]) none <| .op (.take 59 61) none <| .op (.ext 62 59 0) none <| .op (.ext 63 59 1) none <| .op (.take 13 62) none <| .op (.mv 14 (.t 63)) none <| .nil))) <|
  (.seq (.reg (.op (.mv 65 (.t 9)) none <| .op (.call (some 66) (path_Split.sp n) [.v (.t 65)]) none <| .op (.take 64 66) none <| .op (.ext 67 64 0) none <| .op (.ext 68 64 1) none <| .op (.take 15 67) none <| .op (.mv 16 (.t 68)) none <| .nil)) <|
  (.seq (.reg (.op (.call (some 69) (law02_live.sp n) []) none <| .op (.mv 70 (.t 69)) none <| .grp 70 true (.op (.mv 71 (.t 12)) (some ([12, 70, 71], [71])) <| .op (.bin 72 .eql (.t 71) (.c ⟨.int .i64, ((0 : Int) : Int)⟩)) (some ([70, 71, 72], [72])) <| .nil) 72 73 [71, 72] <| .op (.mv 74 (.t 73)) none <| .grp 74 true (.op (.mv 75 (.t 11)) (some ([11, 74, 75], [75])) <| .op (.mv 76 (.t 9)) (some ([9, 74, 76], [76])) <| .op (.bin 77 .eql (.t 75) (.t 76)) (some ([74, 75, 76, 77], [77])) <| .nil) 77 78 [75, 76, 77] <| .op (.mv 79 (.t 78)) none <| .grp 79 true (.op (.mv 80 (.t 16)) (some ([16, 79, 80], [80])) <| .op (.bin 81 .eql (.t 80) (.c ⟨.int .i64, ((0 : Int) : Int)⟩)) (some ([79, 80, 81], [81])) <| .nil) 81 82 [80, 81] <| .op (.mv 83 (.t 82)) none <| .grp 83 true (.op (.bor 84 13) (some ([13, 83, 84], [84])) <| .op (.bor 85 15) (some ([15, 83, 85], [85])) <| .op (.call (some 86) (path_Same.sp n) [.v (.t 84), .v (.t 85)]) (some ([13, 15, 83, 84, 85, 86], [86])) <| .nil) 86 87 [84, 85, 86] <| .op (.mv 88 (.t 87)) none <| .grp 88 true (.op (.mv 89 (.t 9)) (some ([9, 88, 89], [89])) <| .op (.len 90 (.t 89) true) (some ([88, 89, 90], [90])) <| .op (.mv 91 (.t 0)) (some ([0, 88, 91], [91])) <| .op (.len 92 (.t 91) true) (some ([88, 91, 92], [92])) <| .op (.bin 93 .leq (.t 90) (.t 92)) (some ([88, 90, 92, 93], [93])) <| .nil) 93 94 [89, 90, 91, 92, 93] <| .op (.mv 4 (.t 94)) none <| .nil)) <|
  .ret))))))
noncomputable abbrev law02_PathClean.c2 (n : Nat) : XC := law02_PathClean.d2 n
noncomputable def law02_PathClean.j2 (n : Nat) (x0 : List Int) : Option Bool :=
  (path_Clean.f n x0).bind fun r1 => bif (!decide (r1.2.1 = (0 : Int))) then ((law02_live.f n).bind fun r2 => (bif r2 then (some (decide (r1.1 = ([] : List Int)))) else some false).bind fun g3 =>
  some g3)
  else ((path_Clean.f n r1.1).bind fun r4 => (path_Split.f n x0).bind fun r5 => (path_Split.f n r1.1).bind fun r6 => (law02_live.f n).bind fun r7 => (bif r7 then (some (decide (r4.2.1 = (0 : Int)))) else some false).bind fun g8 =>
  (bif g8 then (some (decide (r4.1 = r1.1))) else some false).bind fun g9 =>
  (bif g9 then (some (decide (r6.2.1 = (0 : Int)))) else some false).bind fun g10 =>
  (bif g10 then ((path_Same.f n r5.1 r6.1).bind fun r12 => some r12) else some false).bind fun g11 =>
  (bif g11 then (some (decide ((r1.1.length : Int) ≤ (x0.length : Int)))) else some false).bind fun g13 =>
  some g13)
theorem law02_PathClean.s2 (n : Nat) (x0 : List Int) : ev (law02_PathClean.c2 n) [(0, some ⟨.str, x0⟩)] (⟨retK law02_PathClean.rs law02_PathClean.ps law02_PathClean.r, []⟩ : Ks law02_PathClean.R) (retK law02_PathClean.rs law02_PathClean.ps law02_PathClean.r) = law02_PathClean.j2 n x0 := by kernel_rfl
noncomputable def law02_PathClean.H2 (n : Nat) (X : XC) : St → Option law02_PathClean.R := fun st => ghK [.keep [0]] st fun st => ev X st (⟨retK law02_PathClean.rs law02_PathClean.ps law02_PathClean.r, []⟩ : Ks law02_PathClean.R) (retK law02_PathClean.rs law02_PathClean.ps law02_PathClean.r)
noncomputable abbrev law02_PathClean.K2 (n : Nat) : St → Option law02_PathClean.R := law02_PathClean.H2 n (law02_PathClean.c2 n)
noncomputable def law02_PathClean.d1 (n : Nat) (X2 : XC) : XC :=
  (.seq (.aft (.seq (.reg (.op (.mv 23 (.t 1)) none <| .op (.call (some 24) (path_Join.sp n) [.v (.t 23)]) none <| .op (.take 22 24) none <| .op (.ext 25 22 0) none <| .op (.ext 26 22 1) none <| .op (.mv 5 (.t 25)) none <| .op (.mv 6 (.t 26)) none <| .nil)) <|
  (.seq (.reg (.op (.mv 27 (.t 6)) none <| .op (.bin 28 .eql (.t 27) (.c ⟨.int .i64, ((0 : Int) : Int)⟩)) none <| .nil)) <|
  (.cond (.t 28)
  (.seq (.reg (.op (.mv 30 (.t 5)) none <| .op (.call (some 31) (path_Split.sp n) [.v (.t 30)]) none <| .op (.take 29 31) none <| .op (.ext 32 29 0) none <| .op (.ext 33 29 1) none <| .op (.take 7 32) none <| .op (.mv 8 (.t 33)) none <| .nil)) <|
  (.seq (.pre [.keep [0, 1, 7, 8]] (.reg (.op (.mv 34 (.t 8)) none <| .op (.bin 35 .neq (.t 34) (.c ⟨.int .i64, ((0 : Int) : Int)⟩)) none <| .op (.mv 36 (.t 35)) none <| .grp 36 false (.op (.bor 37 7) (some ([7, 36, 37], [37])) <| .op (.mv 38 (.t 1)) (some ([1, 36, 38], [38])) <| .op (.call (some 39) (path_Same.sp n) [.v (.t 37), .v (.t 38)]) (some ([7, 36, 37, 38, 39], [39])) <| .op (.un 40 .not (.t 39)) (some ([36, 39, 40], [40])) <| .nil) 40 41 [37, 38, 39, 40] <| .nil))) <|
  (.cond (.t 41)
  (.seq (.reg (.op (.mv 4 (.c ⟨.bool, (false : Bool)⟩)) none <| .nil)) <|
  .ret)
  .skip)))
  .skip))) [.keep [0]]) X2)
noncomputable abbrev law02_PathClean.c1 (n : Nat) : XC := law02_PathClean.d1 n (law02_PathClean.c2 n)
noncomputable def law02_PathClean.j1 (n : Nat) (x0 : List Int) (x1 : List (List Int)) : Option Bool :=
  (path_Join.f n x1).bind fun r1 => bif (decide (r1.2.1 = (0 : Int))) then ((path_Split.f n r1.1).bind fun r2 => (bif (!decide (r2.2.1 = (0 : Int))) then some true else ((path_Same.f n r2.1 x1).bind fun r4 => some (!r4))).bind fun g3 =>
  bif g3 then (some false)
  else (law02_PathClean.j2 n x0))
  else (law02_PathClean.j2 n x0)
theorem law02_PathClean.w1 (n : Nat) (x0 : List Int) (x1 : List (List Int)) (X2 : XC) : ev (law02_PathClean.d1 n X2) [(0, some ⟨.str, x0⟩), (1, some ⟨.slB .U false .str, x1⟩)] (⟨retK law02_PathClean.rs law02_PathClean.ps law02_PathClean.r, []⟩ : Ks law02_PathClean.R) (retK law02_PathClean.rs law02_PathClean.ps law02_PathClean.r) =
  ((path_Join.f n x1).bind fun r1 => bif (decide (r1.2.1 = (0 : Int))) then ((path_Split.f n r1.1).bind fun r2 => (bif (!decide (r2.2.1 = (0 : Int))) then some true else ((path_Same.f n r2.1 x1).bind fun r4 => some (!r4))).bind fun g3 =>
  bif g3 then (some false)
  else (ev X2 [(0, some ⟨.str, x0⟩)] (⟨retK law02_PathClean.rs law02_PathClean.ps law02_PathClean.r, []⟩ : Ks law02_PathClean.R) (retK law02_PathClean.rs law02_PathClean.ps law02_PathClean.r)))
  else (ev X2 [(0, some ⟨.str, x0⟩)] (⟨retK law02_PathClean.rs law02_PathClean.ps law02_PathClean.r, []⟩ : Ks law02_PathClean.R) (retK law02_PathClean.rs law02_PathClean.ps law02_PathClean.r)) : Option law02_PathClean.R) := by kernel_rfl
theorem law02_PathClean.s1 (n : Nat) (x0 : List Int) (x1 : List (List Int)) : ev (law02_PathClean.c1 n) [(0, some ⟨.str, x0⟩), (1, some ⟨.slB .U false .str, x1⟩)] (⟨retK law02_PathClean.rs law02_PathClean.ps law02_PathClean.r, []⟩ : Ks law02_PathClean.R) (retK law02_PathClean.rs law02_PathClean.ps law02_PathClean.r) = law02_PathClean.j1 n x0 x1 := (law02_PathClean.w1 n x0 x1 (law02_PathClean.c2 n)).trans (by simp only [law02_PathClean.j1, law02_PathClean.s2 n] <;> kernel_rfl)
noncomputable def law02_PathClean.H1 (n : Nat) (X : XC) : St → Option law02_PathClean.R := fun st => ghK [.keep [0, 1]] st fun st => ev X st (⟨retK law02_PathClean.rs law02_PathClean.ps law02_PathClean.r, []⟩ : Ks law02_PathClean.R) (retK law02_PathClean.rs law02_PathClean.ps law02_PathClean.r)
noncomputable abbrev law02_PathClean.K1 (n : Nat) : St → Option law02_PathClean.R := law02_PathClean.H1 n (law02_PathClean.c1 n)
noncomputable def law02_PathClean.d (n : Nat) (X1 : XC) : XC :=
  (.seq (.reg (.op (.mv 4 (.c ⟨.bool, (false : Bool)⟩)) none <| .nil)) <|
  (.seq (.aft (.seq (.reg (.op (.mv 17 (.t 1)) none <| .op (.len 18 (.t 17) false) none <| .op (.bin 19 .gtr (.t 18) (.c ⟨.int .i64, ((200 : Int) : Int)⟩)) none <| .nil)) <|
  (.cond (.t 19)
  (.reg (.op (.mv 20 (.t 1)) none <| .op (.slc 21 (.t 20) none (some (.c ⟨.int .i64, ((200 : Int) : Int)⟩)) none 1) none <| .op (.mv 1 (.t 21)) none <| .nil))
  .skip)) [.keep [0, 1]]) X1))
noncomputable abbrev law02_PathClean.c (n : Nat) : XC := law02_PathClean.d n (law02_PathClean.c1 n)
noncomputable def law02_PathClean.f (n : Nat) (a0 : List Int) (a1 : List (List Int)) : Option Bool :=
  bif (decide ((200 : Int) < (a1.length : Int))) then (sliceK 0 (200 : Int) a1.length (law02_PathClean.j1 n a0 (cut a1 0 (200 : Int))))
  else (law02_PathClean.j1 n a0 a1)
theorem law02_PathClean.w (n : Nat) (a0 : List Int) (a1 : List (List Int)) (X1 : XC) : evFn (law02_PathClean.d n X1) law02_PathClean.rs law02_PathClean.ps law02_PathClean.r (a0, a1, ()) =
  (bif (decide ((200 : Int) < (a1.length : Int))) then (sliceK 0 (200 : Int) a1.length (ev X1 [(0, some ⟨.str, a0⟩), (1, some ⟨.slB .U false .str, ((cut a1 0 (200 : Int)) : List (List Int))⟩)] (⟨retK law02_PathClean.rs law02_PathClean.ps law02_PathClean.r, []⟩ : Ks law02_PathClean.R) (retK law02_PathClean.rs law02_PathClean.ps law02_PathClean.r)))
  else (ev X1 [(0, some ⟨.str, a0⟩), (1, some ⟨.slB .U false .str, a1⟩)] (⟨retK law02_PathClean.rs law02_PathClean.ps law02_PathClean.r, []⟩ : Ks law02_PathClean.R) (retK law02_PathClean.rs law02_PathClean.ps law02_PathClean.r)) : Option law02_PathClean.R) := by kernel_rfl
theorem law02_PathClean.ok (n : Nat) (a0 : List Int) (a1 : List (List Int)) : evFn (law02_PathClean.c n) law02_PathClean.rs law02_PathClean.ps law02_PathClean.r (a0, a1, ()) = law02_PathClean.f n a0 a1 := (law02_PathClean.w n a0 a1 (law02_PathClean.c1 n)).trans (by simp only [law02_PathClean.f, law02_PathClean.s1 n] <;> kernel_rfl)
noncomputable def law02_PathClean.sp (n : Nat) : FSpec := { f := 4, ps := law02_PathClean.ps, r := law02_PathClean.r, run := fun x => law02_PathClean.f n x.1 x.2.1 }
theorem law02_PathClean.calls (n : Nat) : (law02_PathClean.c n).calls = [path_Join.sp n, path_Split.sp n, path_Same.sp n, path_Clean.sp n, law02_live.sp n, path_Clean.sp n, path_Split.sp n, path_Split.sp n, law02_live.sp n, path_Same.sp n] := by kernel_rfl
theorem law02_PathClean.fits (n : Nat) : fnB tab hd Try.f4 (law02_PathClean.c n) law02_PathClean.rs (law02_PathClean.sp n).ps (law02_PathClean.sp n).r = true := by kernel_rfl
theorem law02_PathClean.sound (n : Nat) : Sound Try.prog (law02_PathClean.sp n) := by
  refine fnB_sound tabOk eqFacts mixed (fn := Try.f4) (c := law02_PathClean.c n) (rs := law02_PathClean.rs) (by kernel_rfl) ?_ (law02_PathClean.fits n) ?_
  · rw [law02_PathClean.calls]
    intro s hs
    simp only [List.mem_cons, List.not_mem_nil, or_false] at hs
    rcases hs with rfl | rfl | rfl | rfl | rfl | rfl | rfl | rfl | rfl | rfl
    · exact path_Join.meets n
    · exact path_Split.meets n
    · exact path_Same.meets n
    · exact path_Clean.meets n
    · exact law02_live.meets n
    · exact path_Clean.meets n
    · exact path_Split.meets n
    · exact path_Split.meets n
    · exact law02_live.meets n
    · exact path_Same.meets n
  · rintro ⟨a0, a1, ⟨⟩⟩ y h
    exact (law02_PathClean.ok n a0 a1).trans h
theorem law02_PathClean.meets (n : Nat) : Meets Try.prog (law02_PathClean.sp n) := (law02_PathClean.sound n).meets
/-! backwater/backwaterlaw02.PathOrder -/
abbrev law02_PathOrder.ps : List (Ty × Bool) := [(.str, false), (.str, false), (.str, false)]
abbrev law02_PathOrder.r : Ty := .bool
abbrev law02_PathOrder.rs : List RV := [.t 6]
abbrev law02_PathOrder.R : Type := (rtOf law02_PathOrder.ps law02_PathOrder.r).den
noncomputable def law02_PathOrder.d (n : Nat) : XC :=
  (.seq (.reg (.op (.mv 6 (.c ⟨.bool, (false : Bool)⟩)) none <| .nil)) <|
  (.seq (.reg (.op (.call (some 7) (law02_live.sp n) []) none <| .op (.mv 8 (.t 7)) none <| .grp 8 true (.op (.mv 9 (.t 0)) (some ([0, 8, 9], [9])) <| .op (.mv 10 (.t 0)) (some ([0, 8, 10], [10])) <| .op (.call (some 11) (path_Below.sp n) [.v (.t 9), .v (.t 10)]) (some ([8, 9, 10, 11], [11])) <| .op (.un 12 .not (.t 11)) (some ([8, 11, 12], [12])) <| .nil) 12 13 [9, 10, 11, 12] <| .op (.mv 14 (.t 13)) none <| .grp 14 true (.op (.mv 15 (.t 0)) (some ([0, 14, 15], [15])) <| .op (.mv 16 (.t 1)) (some ([1, 14, 16], [16])) <| .op (.call (some 17) (path_Below.sp n) [.v (.t 15), .v (.t 16)]) (some ([14, 15, 16, 17], [17])) <| .op (.un 18 .not (.t 17)) (some ([14, 17, 18], [18])) <| .op (.mv 19 (.t 18)) (some ([14, 18, 19], [19])) <| .grp 19 false (.op (.mv 20 (.t 1)) (some ([1, 19, 20], [20])) <| .op (.mv 21 (.t 2)) (some ([2, 19, 21], [21])) <| .op (.call (some 22) (path_Below.sp n) [.v (.t 20), .v (.t 21)]) (some ([19, 20, 21, 22], [22])) <| .op (.un 23 .not (.t 22)) (some ([19, 22, 23], [23])) <| .nil) 23 24 [20, 21, 22, 23] <| .op (.mv 25 (.t 24)) (some ([14, 24, 25], [25])) <| .grp 25 false (.op (.mv 26 (.t 0)) (some ([0, 25, 26], [26])) <| .op (.mv 27 (.t 2)) (some ([2, 25, 27], [27])) <| .op (.call (some 28) (path_Below.sp n) [.v (.t 26), .v (.t 27)]) (some ([25, 26, 27, 28], [28])) <| .nil) 28 29 [26, 27, 28] <| .nil) 29 30 [15, 16, 17, 18, 19, 20, 21, 22, 23, 24, 25, 26, 27, 28, 29] <| .op (.mv 31 (.t 30)) none <| .grp 31 true (.op (.mv 32 (.t 0)) (some ([0, 31, 32], [32])) <| .op (.mv 33 (.t 1)) (some ([1, 31, 33], [33])) <| .op (.call (some 34) (path_Below.sp n) [.v (.t 32), .v (.t 33)]) (some ([31, 32, 33, 34], [34])) <| .op (.un 35 .not (.t 34)) (some ([31, 34, 35], [35])) <| .op (.mv 36 (.t 35)) (some ([31, 35, 36], [36])) <| .grp 36 false (.op (.mv 37 (.t 1)) (some ([1, 36, 37], [37])) <| .op (.mv 38 (.t 0)) (some ([0, 36, 38], [38])) <| .op (.call (some 39) (path_Below.sp n) [.v (.t 37), .v (.t 38)]) (some ([36, 37, 38, 39], [39])) <| .op (.un 40 .not (.t 39)) (some ([36, 39, 40], [40])) <| .nil) 40 41 [37, 38, 39, 40] <| .nil) 41 42 [32, 33, 34, 35, 36, 37, 38, 39, 40, 41] <| .op (.mv 6 (.t 42)) none <| .nil)) <|
  .ret))
noncomputable abbrev law02_PathOrder.c (n : Nat) : XC := law02_PathOrder.d n
noncomputable def law02_PathOrder.f (n : Nat) (a0 : List Int) (a1 : List Int) (a2 : List Int) : Option Bool :=
  (law02_live.f n).bind fun r1 => (bif r1 then ((path_Below.f n a0 a0).bind fun r3 => some (!r3)) else some false).bind fun g2 =>
  (bif g2 then ((path_Below.f n a0 a1).bind fun r5 => (bif (!r5) then some true else ((path_Below.f n a1 a2).bind fun r7 => some (!r7))).bind fun g6 =>
  (bif g6 then some true else ((path_Below.f n a0 a2).bind fun r9 => some r9)).bind fun g8 =>
  some g8) else some false).bind fun g4 =>
  (bif g4 then ((path_Below.f n a0 a1).bind fun r11 => (bif (!r11) then some true else ((path_Below.f n a1 a0).bind fun r13 => some (!r13))).bind fun g12 =>
  some g12) else some false).bind fun g10 =>
  some g10
theorem law02_PathOrder.ok (n : Nat) (a0 : List Int) (a1 : List Int) (a2 : List Int) : evFn (law02_PathOrder.c n) law02_PathOrder.rs law02_PathOrder.ps law02_PathOrder.r (a0, a1, a2, ()) = law02_PathOrder.f n a0 a1 a2 := by kernel_rfl
noncomputable def law02_PathOrder.sp (n : Nat) : FSpec := { f := 5, ps := law02_PathOrder.ps, r := law02_PathOrder.r, run := fun x => law02_PathOrder.f n x.1 x.2.1 x.2.2.1 }
theorem law02_PathOrder.calls (n : Nat) : (law02_PathOrder.c n).calls = [law02_live.sp n, path_Below.sp n, path_Below.sp n, path_Below.sp n, path_Below.sp n, path_Below.sp n, path_Below.sp n] := by kernel_rfl
theorem law02_PathOrder.fits (n : Nat) : fnB tab hd Try.f5 (law02_PathOrder.c n) law02_PathOrder.rs (law02_PathOrder.sp n).ps (law02_PathOrder.sp n).r = true := by kernel_rfl
theorem law02_PathOrder.sound (n : Nat) : Sound Try.prog (law02_PathOrder.sp n) := by
  refine fnB_sound tabOk eqFacts mixed (fn := Try.f5) (c := law02_PathOrder.c n) (rs := law02_PathOrder.rs) (by kernel_rfl) ?_ (law02_PathOrder.fits n) ?_
  · rw [law02_PathOrder.calls]
    intro s hs
    simp only [List.mem_cons, List.not_mem_nil, or_false] at hs
    rcases hs with rfl | rfl | rfl | rfl | rfl | rfl | rfl
    · exact law02_live.meets n
    · exact path_Below.meets n
    · exact path_Below.meets n
    · exact path_Below.meets n
    · exact path_Below.meets n
    · exact path_Below.meets n
    · exact path_Below.meets n
  · rintro ⟨a0, a1, a2, ⟨⟩⟩ y h
    exact (law02_PathOrder.ok n a0 a1 a2).trans h
theorem law02_PathOrder.meets (n : Nat) : Meets Try.prog (law02_PathOrder.sp n) := (law02_PathOrder.sound n).meets
/-! backwater/backwaterlaw02.PathNames -/
abbrev law02_PathNames.ps : List (Ty × Bool) := [(.str, false), (.str, false)]
abbrev law02_PathNames.r : Ty := .bool
abbrev law02_PathNames.rs : List RV := [.t 4]
abbrev law02_PathNames.R : Type := (rtOf law02_PathNames.ps law02_PathNames.r).den
noncomputable def law02_PathNames.d (n : Nat) : XC :=
  (.seq (.reg (.op (.mv 4 (.c ⟨.bool, (false : Bool)⟩)) none <| .nil)) <|
  (.seq (.seq (.reg (.op (.mv 9 (.t 0)) none <| .op (.call (some 10) (path_Name.sp n) [.v (.t 9)]) none <| .op (.un 11 .not (.t 10)) none <| .nil)) <|
  (.cond (.t 11)
  (.seq (.reg (.op (.call (some 12) (law02_live.sp n) []) none <| .op (.mv 13 (.t 12)) none <| .grp 13 true (.op (.mv 14 (.t 0)) (some ([0, 13, 14], [14])) <| .op (.call (some 15) (r02_Name.sp n) [.v (.t 14)]) (some ([13, 14, 15], [15])) <| .op (.un 16 .not (.t 15)) (some ([13, 15, 16], [16])) <| .nil) 16 17 [14, 15, 16] <| .op (.mv 4 (.t 17)) none <| .nil)) <|
  .ret)
  .skip)) <|
  (.seq (.reg (.op (.mv 19 (.t 1)) none <| .op (.call (some 20) (path_Split.sp n) [.v (.t 19)]) none <| .op (.take 18 20) none <| .op (.ext 21 18 0) none <| .op (.ext 22 18 1) none <| .op (.take 5 21) none <| .op (.mv 6 (.t 22)) none <| .nil)) <|
  (.seq (.seq (.reg (.op (.mv 23 (.t 6)) none <| .op (.bin 24 .neq (.t 23) (.c ⟨.int .i64, ((0 : Int) : Int)⟩)) none <| .nil)) <|
  (.cond (.t 24)
  (.seq (.pre [.keep [0]] (.reg (.op (.call (some 25) (law02_live.sp n) []) none <| .op (.mv 26 (.t 25)) none <| .grp 26 true (.op (.mv 27 (.t 0)) (some ([0, 26, 27], [27])) <| .op (.bin 28 .add (.t 27) (.c ⟨.str, (([97] : List Int) : List Int)⟩)) (some ([26, 27, 28], [28])) <| .op (.call (some 29) (path_Name.sp n) [.v (.t 28)]) (some ([26, 28, 29], [29])) <| .op (.mv 30 (.t 0)) (some ([0, 26, 30], [30])) <| .op (.len 31 (.t 30) true) (some ([26, 30, 31], [31])) <| .op (.bin 32 .lss (.t 31) (.c ⟨.int .i64, ((12 : Int) : Int)⟩)) (some ([26, 31, 32], [32])) <| .op (.eqs 33 false (.t 29) (.t 32) .bool) (some ([26, 29, 32, 33], [33])) <| .nil) 33 34 [27, 28, 29, 30, 31, 32, 33] <| .op (.mv 4 (.t 34)) none <| .nil))) <|
  .ret)
  .skip)) <|
  (.seq (.pre [.keep [0, 1, 5]] (.reg (.op (.bsl 36 .str []) none <| .op (.bor 37 5) none <| .op (.app 38 36 (.t 37) 16 1) none <| .op (.mv 39 (.t 0)) none <| .op (.bsl 40 .str [(.t 39)]) none <| .op (.app 41 38 (.t 40) 16 1) none <| .op (.call (some 42) (path_Join.sp n) [.v (.t 41)]) none <| .op (.take 35 42) none <| .op (.ext 43 35 0) none <| .op (.ext 44 35 1) none <| .op (.mv 7 (.t 43)) none <| .op (.mv 8 (.t 44)) none <| .nil))) <|
  (.seq (.reg (.op (.call (some 45) (law02_live.sp n) []) none <| .op (.mv 46 (.t 45)) none <| .grp 46 true (.op (.mv 47 (.t 0)) (some ([0, 46, 47], [47])) <| .op (.bin 48 .add (.t 47) (.c ⟨.str, (([97] : List Int) : List Int)⟩)) (some ([46, 47, 48], [48])) <| .op (.call (some 49) (path_Name.sp n) [.v (.t 48)]) (some ([46, 48, 49], [49])) <| .op (.mv 50 (.t 0)) (some ([0, 46, 50], [50])) <| .op (.len 51 (.t 50) true) (some ([46, 50, 51], [51])) <| .op (.bin 52 .lss (.t 51) (.c ⟨.int .i64, ((12 : Int) : Int)⟩)) (some ([46, 51, 52], [52])) <| .op (.eqs 53 false (.t 49) (.t 52) .bool) (some ([46, 49, 52, 53], [53])) <| .nil) 53 54 [47, 48, 49, 50, 51, 52, 53] <| .op (.mv 55 (.t 54)) none <| .grp 55 true (.op (.mv 56 (.t 8)) (some ([8, 55, 56], [56])) <| .op (.bin 57 .neq (.t 56) (.c ⟨.int .i64, ((0 : Int) : Int)⟩)) (some ([55, 56, 57], [57])) <| .op (.mv 58 (.t 57)) (some ([55, 57, 58], [58])) <| .grp 58 false (.op (.mv 59 (.t 7)) (some ([7, 58, 59], [59])) <| .op (.mv 60 (.t 1)) (some ([1, 58, 60], [60])) <| .op (.call (some 61) (path_Below.sp n) [.v (.t 59), .v (.t 60)]) (some ([58, 59, 60, 61], [61])) <| .nil) 61 62 [59, 60, 61] <| .nil) 62 63 [56, 57, 58, 59, 60, 61, 62] <| .op (.mv 4 (.t 63)) none <| .nil)) <|
  .ret))))))
noncomputable abbrev law02_PathNames.c (n : Nat) : XC := law02_PathNames.d n
noncomputable def law02_PathNames.f (n : Nat) (a0 : List Int) (a1 : List Int) : Option Bool :=
  (path_Name.f n a0).bind fun r1 => bif (!r1) then ((law02_live.f n).bind fun r2 => (bif r2 then ((r02_Name.f n a0).bind fun r4 => some (!r4)) else some false).bind fun g3 =>
  some g3)
  else ((path_Split.f n a1).bind fun r5 => bif (!decide (r5.2.1 = (0 : Int))) then ((law02_live.f n).bind fun r6 => (bif r6 then (leK (a0.length + ([97] : List Int).length) maxLen ((path_Name.f n (a0 ++ ([97] : List Int))).bind fun r8 => some (bbeq r8 (decide ((a0.length : Int) < (12 : Int)))))) else some false).bind fun g7 =>
  some g7)
  else (appK ([] : List (List Int)).length r5.1.length 16 (appK (([] : List (List Int)) ++ r5.1).length ([a0] : List (List Int)).length 16 ((path_Join.f n ((([] : List (List Int)) ++ r5.1) ++ ([a0] : List (List Int)))).bind fun r9 => (law02_live.f n).bind fun r10 => (bif r10 then (leK (a0.length + ([97] : List Int).length) maxLen ((path_Name.f n (a0 ++ ([97] : List Int))).bind fun r12 => some (bbeq r12 (decide ((a0.length : Int) < (12 : Int)))))) else some false).bind fun g11 =>
  (bif g11 then ((bif (!decide (r9.2.1 = (0 : Int))) then some true else ((path_Below.f n r9.1 a1).bind fun r15 => some r15)).bind fun g14 =>
  some g14) else some false).bind fun g13 =>
  some g13))))
theorem law02_PathNames.ok (n : Nat) (a0 : List Int) (a1 : List Int) : evFn (law02_PathNames.c n) law02_PathNames.rs law02_PathNames.ps law02_PathNames.r (a0, a1, ()) = law02_PathNames.f n a0 a1 := by kernel_rfl
noncomputable def law02_PathNames.sp (n : Nat) : FSpec := { f := 6, ps := law02_PathNames.ps, r := law02_PathNames.r, run := fun x => law02_PathNames.f n x.1 x.2.1 }
theorem law02_PathNames.calls (n : Nat) : (law02_PathNames.c n).calls = [path_Name.sp n, law02_live.sp n, r02_Name.sp n, path_Split.sp n, law02_live.sp n, path_Name.sp n, path_Join.sp n, law02_live.sp n, path_Name.sp n, path_Below.sp n] := by kernel_rfl
theorem law02_PathNames.fits (n : Nat) : fnB tab hd Try.f6 (law02_PathNames.c n) law02_PathNames.rs (law02_PathNames.sp n).ps (law02_PathNames.sp n).r = true := by kernel_rfl
theorem law02_PathNames.sound (n : Nat) : Sound Try.prog (law02_PathNames.sp n) := by
  refine fnB_sound tabOk eqFacts mixed (fn := Try.f6) (c := law02_PathNames.c n) (rs := law02_PathNames.rs) (by kernel_rfl) ?_ (law02_PathNames.fits n) ?_
  · rw [law02_PathNames.calls]
    intro s hs
    simp only [List.mem_cons, List.not_mem_nil, or_false] at hs
    rcases hs with rfl | rfl | rfl | rfl | rfl | rfl | rfl | rfl | rfl | rfl
    · exact path_Name.meets n
    · exact law02_live.meets n
    · exact r02_Name.meets n
    · exact path_Split.meets n
    · exact law02_live.meets n
    · exact path_Name.meets n
    · exact path_Join.meets n
    · exact law02_live.meets n
    · exact path_Name.meets n
    · exact path_Below.meets n
  · rintro ⟨a0, a1, ⟨⟩⟩ y h
    exact (law02_PathNames.ok n a0 a1).trans h
theorem law02_PathNames.meets (n : Nat) : Meets Try.prog (law02_PathNames.sp n) := (law02_PathNames.sound n).meets
/-! backwater/path.Base -/
abbrev path_Base.ps : List (Ty × Bool) := [(.str, false)]
abbrev path_Base.r : Ty := .tup (.pair .str (.pair (.int .i64) .unit))
abbrev path_Base.rs : List RV := [.t 2, .t 3]
abbrev path_Base.R : Type := (rtOf path_Base.ps path_Base.r).den
noncomputable def path_Base.d (n : Nat) : XC :=
  (.seq (.reg (.op (.mv 2 (.c ⟨.str, (([] : List Int) : List Int)⟩)) none <| .op (.mv 3 (.c ⟨.int .i64, ((0 : Int) : Int)⟩)) none <| .nil)) <|
  (.seq (.reg (.op (.mv 8 (.t 0)) none <| .op (.call (some 9) (path_last.sp n) [.v (.t 8)]) none <| .op (.take 7 9) none <| .op (.ext 10 7 0) none <| .op (.ext 11 7 1) none <| .op (.ext 12 7 2) none <| .op (.mv 4 (.t 10)) none <| .op (.mv 5 (.t 11)) none <| .op (.mv 6 (.t 12)) none <| .nil)) <|
  (.seq (.reg (.op (.mv 13 (.t 5)) none <| .op (.mv 14 (.t 6)) none <| .op (.mv 2 (.t 13)) none <| .op (.mv 3 (.t 14)) none <| .nil)) <|
  .ret)))
noncomputable abbrev path_Base.c (n : Nat) : XC := path_Base.d n
noncomputable def path_Base.f (n : Nat) (a0 : List Int) : Option ((List Int) × Int × Unit) :=
  (path_last.f n a0).bind fun r1 => some (r1.2.1, r1.2.2.1, ())
theorem path_Base.ok (n : Nat) (a0 : List Int) : evFn (path_Base.c n) path_Base.rs path_Base.ps path_Base.r (a0, ()) = path_Base.f n a0 := by kernel_rfl
noncomputable def path_Base.sp (n : Nat) : FSpec := { f := 18, ps := path_Base.ps, r := path_Base.r, run := fun x => path_Base.f n x.1 }
theorem path_Base.calls (n : Nat) : (path_Base.c n).calls = [path_last.sp n] := by kernel_rfl
theorem path_Base.fits (n : Nat) : fnB tab hd Try.f18 (path_Base.c n) path_Base.rs (path_Base.sp n).ps (path_Base.sp n).r = true := by kernel_rfl
theorem path_Base.sound (n : Nat) : Sound Try.prog (path_Base.sp n) := by
  refine fnB_sound tabOk eqFacts mixed (fn := Try.f18) (c := path_Base.c n) (rs := path_Base.rs) (by kernel_rfl) ?_ (path_Base.fits n) ?_
  · rw [path_Base.calls]
    intro s hs
    simp only [List.mem_cons, List.not_mem_nil, or_false] at hs
    rcases hs with rfl
    · exact path_last.meets n
  · rintro ⟨a0, ⟨⟩⟩ y h
    exact (path_Base.ok n a0).trans h
theorem path_Base.meets (n : Nat) : Meets Try.prog (path_Base.sp n) := (path_Base.sound n).meets
/-! backwater/backwaterlaw02.PathParts -/
abbrev law02_PathParts.ps : List (Ty × Bool) := [(.str, false)]
abbrev law02_PathParts.r : Ty := .bool
abbrev law02_PathParts.rs : List RV := [.t 2]
abbrev law02_PathParts.R : Type := (rtOf law02_PathParts.ps law02_PathParts.r).den
noncomputable def law02_PathParts.d (n : Nat) : XC :=
  (.seq (.reg (.op (.mv 2 (.c ⟨.bool, (false : Bool)⟩)) none <| .nil)) <|
  (.seq (.reg (.op (.mv 14 (.t 0)) none <| .op (.call (some 15) (path_Dir.sp n) [.v (.t 14)]) none <| .op (.take 13 15) none <| .op (.ext 16 13 0) none <| .op (.ext 17 13 1) none <| .op (.mv 3 (.t 16)) none <| .op (.mv 4 (.t 17)) none <| .nil)) <|
  (.seq (.reg (.op (.mv 19 (.t 0)) none <| .op (.call (some 20) (path_Base.sp n) [.v (.t 19)]) none <| .op (.take 18 20) none <| .op (.ext 21 18 0) none <| .op (.ext 22 18 1) none <| .op (.mv 5 (.t 21)) none <| .op (.mv 6 (.t 22)) none <| .nil)) <|
  (.seq (.seq (.reg (.op (.mv 23 (.t 4)) none <| .op (.bin 24 .neq (.t 23) (.c ⟨.int .i64, ((0 : Int) : Int)⟩)) none <| .op (.mv 25 (.t 24)) none <| .grp 25 false (.op (.mv 26 (.t 6)) (some ([6, 25, 26], [26])) <| .op (.bin 27 .neq (.t 26) (.c ⟨.int .i64, ((0 : Int) : Int)⟩)) (some ([25, 26, 27], [27])) <| .nil) 27 28 [26, 27] <| .nil)) <|
  (.cond (.t 28)
  (.seq (.pre [.keep [3, 4, 5, 6]] (.reg (.op (.call (some 29) (law02_live.sp n) []) none <| .op (.mv 30 (.t 29)) none <| .grp 30 true (.op (.mv 31 (.t 4)) (some ([4, 30, 31], [31])) <| .op (.mv 32 (.t 6)) (some ([6, 30, 32], [32])) <| .op (.bin 33 .eql (.t 31) (.t 32)) (some ([30, 31, 32, 33], [33])) <| .nil) 33 34 [31, 32, 33] <| .op (.mv 35 (.t 34)) none <| .grp 35 true (.op (.mv 36 (.t 3)) (some ([3, 35, 36], [36])) <| .op (.bin 37 .eql (.t 36) (.c ⟨.str, (([] : List Int) : List Int)⟩)) (some ([35, 36, 37], [37])) <| .nil) 37 38 [36, 37] <| .op (.mv 39 (.t 38)) none <| .grp 39 true (.op (.mv 40 (.t 5)) (some ([5, 39, 40], [40])) <| .op (.bin 41 .eql (.t 40) (.c ⟨.str, (([] : List Int) : List Int)⟩)) (some ([39, 40, 41], [41])) <| .nil) 41 42 [40, 41] <| .op (.mv 2 (.t 42)) none <| .nil))) <|
  .ret)
  .skip)) <|
  (.seq (.pre [.keep [0, 3, 5]] (.reg (.op (.mv 44 (.t 3)) none <| .op (.call (some 45) (path_Split.sp n) [.v (.t 44)]) none <| .op (.take 43 45) none <| .op (.ext 46 43 0) none <| .op (.ext 47 43 1) none <| .op (.take 7 46) none <| .op (.mv 8 (.t 47)) none <| .nil))) <|
  (.seq (.reg (.op (.bsl 49 .str []) none <| .op (.bor 50 7) none <| .op (.app 51 49 (.t 50) 16 1) none <| .op (.mv 52 (.t 5)) none <| .op (.bsl 53 .str [(.t 52)]) none <| .op (.app 54 51 (.t 53) 16 1) none <| .op (.call (some 55) (path_Join.sp n) [.v (.t 54)]) none <| .op (.take 48 55) none <| .op (.ext 56 48 0) none <| .op (.ext 57 48 1) none <| .op (.mv 9 (.t 56)) none <| .op (.mv 10 (.t 57)) none <| .nil)) <|
  (.seq (.pre [.keep [0, 3, 9, 10]] (.reg (.op (.mv 59 (.t 0)) none <| .op (.call (some 60) (path_Clean.sp n) [.v (.t 59)]) none <| .op (.take 58 60) none <| .op (.ext 61 58 0) none <| .op (.ext 62 58 1) none <| .op (.mv 11 (.t 61)) none <| .op (.mv 12 (.t 62)) none <| .nil))) <|
  (.seq (.reg (.op (.call (some 63) (law02_live.sp n) []) none <| .op (.mv 64 (.t 63)) none <| .grp 64 true (.op (.mv 65 (.t 10)) (some ([10, 64, 65], [65])) <| .op (.bin 66 .eql (.t 65) (.c ⟨.int .i64, ((0 : Int) : Int)⟩)) (some ([64, 65, 66], [66])) <| .nil) 66 67 [65, 66] <| .op (.mv 68 (.t 67)) none <| .grp 68 true (.op (.mv 69 (.t 12)) (some ([12, 68, 69], [69])) <| .op (.bin 70 .eql (.t 69) (.c ⟨.int .i64, ((0 : Int) : Int)⟩)) (some ([68, 69, 70], [70])) <| .nil) 70 71 [69, 70] <| .op (.mv 72 (.t 71)) none <| .grp 72 true (.op (.mv 73 (.t 9)) (some ([9, 72, 73], [73])) <| .op (.mv 74 (.t 11)) (some ([11, 72, 74], [74])) <| .op (.bin 75 .eql (.t 73) (.t 74)) (some ([72, 73, 74, 75], [75])) <| .nil) 75 76 [73, 74, 75] <| .op (.mv 77 (.t 76)) none <| .grp 77 true (.op (.mv 78 (.t 0)) (some ([0, 77, 78], [78])) <| .op (.mv 79 (.t 3)) (some ([3, 77, 79], [79])) <| .op (.call (some 80) (path_Below.sp n) [.v (.t 78), .v (.t 79)]) (some ([77, 78, 79, 80], [80])) <| .nil) 80 81 [78, 79, 80] <| .op (.mv 82 (.t 81)) none <| .grp 82 true (.op (.mv 83 (.t 3)) (some ([3, 82, 83], [83])) <| .op (.mv 84 (.t 0)) (some ([0, 82, 84], [84])) <| .op (.call (some 85) (path_Below.sp n) [.v (.t 83), .v (.t 84)]) (some ([82, 83, 84, 85], [85])) <| .op (.un 86 .not (.t 85)) (some ([82, 85, 86], [86])) <| .nil) 86 87 [83, 84, 85, 86] <| .op (.mv 2 (.t 87)) none <| .nil)) <|
  .ret))))))))
noncomputable abbrev law02_PathParts.c (n : Nat) : XC := law02_PathParts.d n
noncomputable def law02_PathParts.f (n : Nat) (a0 : List Int) : Option Bool :=
  (path_Dir.f n a0).bind fun r1 => (path_Base.f n a0).bind fun r2 => (bif (!decide (r1.2.1 = (0 : Int))) then some true else (some (!decide (r2.2.1 = (0 : Int))))).bind fun g3 =>
  bif g3 then ((law02_live.f n).bind fun r4 => (bif r4 then (some (decide (r1.2.1 = r2.2.1))) else some false).bind fun g5 =>
  (bif g5 then (some (decide (r1.1 = ([] : List Int)))) else some false).bind fun g6 =>
  (bif g6 then (some (decide (r2.1 = ([] : List Int)))) else some false).bind fun g7 =>
  some g7)
  else ((path_Split.f n r1.1).bind fun r8 => appK ([] : List (List Int)).length r8.1.length 16 (appK (([] : List (List Int)) ++ r8.1).length ([r2.1] : List (List Int)).length 16 ((path_Join.f n ((([] : List (List Int)) ++ r8.1) ++ ([r2.1] : List (List Int)))).bind fun r9 => (path_Clean.f n a0).bind fun r10 => (law02_live.f n).bind fun r11 => (bif r11 then (some (decide (r9.2.1 = (0 : Int)))) else some false).bind fun g12 =>
  (bif g12 then (some (decide (r10.2.1 = (0 : Int)))) else some false).bind fun g13 =>
  (bif g13 then (some (decide (r9.1 = r10.1))) else some false).bind fun g14 =>
  (bif g14 then ((path_Below.f n a0 r1.1).bind fun r16 => some r16) else some false).bind fun g15 =>
  (bif g15 then ((path_Below.f n r1.1 a0).bind fun r18 => some (!r18)) else some false).bind fun g17 =>
  some g17)))
theorem law02_PathParts.ok (n : Nat) (a0 : List Int) : evFn (law02_PathParts.c n) law02_PathParts.rs law02_PathParts.ps law02_PathParts.r (a0, ()) = law02_PathParts.f n a0 := by kernel_rfl
noncomputable def law02_PathParts.sp (n : Nat) : FSpec := { f := 7, ps := law02_PathParts.ps, r := law02_PathParts.r, run := fun x => law02_PathParts.f n x.1 }
theorem law02_PathParts.calls (n : Nat) : (law02_PathParts.c n).calls = [path_Dir.sp n, path_Base.sp n, law02_live.sp n, path_Split.sp n, path_Join.sp n, path_Clean.sp n, law02_live.sp n, path_Below.sp n, path_Below.sp n] := by kernel_rfl
theorem law02_PathParts.fits (n : Nat) : fnB tab hd Try.f7 (law02_PathParts.c n) law02_PathParts.rs (law02_PathParts.sp n).ps (law02_PathParts.sp n).r = true := by kernel_rfl
theorem law02_PathParts.sound (n : Nat) : Sound Try.prog (law02_PathParts.sp n) := by
  refine fnB_sound tabOk eqFacts mixed (fn := Try.f7) (c := law02_PathParts.c n) (rs := law02_PathParts.rs) (by kernel_rfl) ?_ (law02_PathParts.fits n) ?_
  · rw [law02_PathParts.calls]
    intro s hs
    simp only [List.mem_cons, List.not_mem_nil, or_false] at hs
    rcases hs with rfl | rfl | rfl | rfl | rfl | rfl | rfl | rfl | rfl
    · exact path_Dir.meets n
    · exact path_Base.meets n
    · exact law02_live.meets n
    · exact path_Split.meets n
    · exact path_Join.meets n
    · exact path_Clean.meets n
    · exact law02_live.meets n
    · exact path_Below.meets n
    · exact path_Below.meets n
  · rintro ⟨a0, ⟨⟩⟩ y h
    exact (law02_PathParts.ok n a0).trans h
theorem law02_PathParts.meets (n : Nat) : Meets Try.prog (law02_PathParts.sp n) := (law02_PathParts.sound n).meets
end Go.Proofs.Ytfpmemeahnbmfaa.S
