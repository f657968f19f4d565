/- The functions of the seat: annotated code, shallow functions, and that each keeps its contract. Printed by pr.py. -/
import Derived.Test.YtggidaedacngbaaSFa
namespace Go.Proofs.Ytggidaedacngbaa.S
open Go Go.Proofs Go.Proofs.Bw
set_option maxRecDepth 100000
set_option linter.unusedVariables false
/-! backwater/backwaterref08.Same -/
namespace r08_Same
abbrev ps : List (Ty × Bool) := [(.slB .U false TRecord, false), (.slB .U false TRecord, false)]
abbrev r : Ty := .bool
abbrev rs : List RV := [.t 4]
abbrev R : Type := (rtOf ps r).den
abbrev Q : Type := St → Option R
abbrev E (l : List (Nat × Q)) : Ks R := ⟨retK rs ps r, l⟩
abbrev Z0 (x0 : Ty.den (.slB .U false TRecord)) (x1 : Ty.den (.slB .U false TRecord)) (x5 : Ty.den (.int .i64)) : St := [(0, some ⟨.slB .U false TRecord, x0⟩), (1, some ⟨.slB .U false TRecord, x1⟩), (5, some ⟨.int .i64, x5⟩)]
noncomputable def d1 (n : Nat) : XC :=
  (.seq (.reg (.op (.mv 4 (.c ⟨.bool, (true : Bool)⟩)) none <| .nil)) <|
  .ret)
noncomputable abbrev c1 (n : Nat) : XC := d1 n
noncomputable def j1 (n : Nat)  : Option Bool :=
  some true
theorem s1 (n : Nat)  : ev (c1 n) [] (E []) (retK rs ps r) = j1 n  := by kernel_rfl
noncomputable def H1 (n : Nat) (X : XC) : Q := fun st => ghK [.keep []] st fun st => ev X st (E []) (retK rs ps r)
noncomputable abbrev K1 (n : Nat) : Q := H1 n (c1 n)
noncomputable def Kb2 (Kr2 : Q) : Q := fun st => ghK [.keep [0, 1, 5]] st Kr2
noncomputable def d3 (n : Nat) : XC :=
  (.aft (.reg (.op (.mv 15 (.t 5)) none <| .op (.bin 16 .add (.t 15) (.c ⟨.int .i64, ((1 : Int) : Int)⟩)) none <| .op (.mv 5 (.t 16)) none <| .nil)) [.keep [0, 1, 5]])
noncomputable abbrev c3 (n : Nat) : XC := d3 n
theorem qb2_0 (Kr2 : Q) (kr2 : (List DRecord) → (List DRecord) → Int → Option Bool) (hK2 : ∀ (x0 : List DRecord) (x1 : List DRecord) (x5 : Int), Kr2 (Z0 x0 x1 x5) = kr2 x0 x1 x5) (x0 : List DRecord) (x1 : List DRecord) (x5 : Int) : Kb2 Kr2 (Z0 x0 x1 x5) = kr2 x0 x1 x5 := (by kernel_rfl : _ = Kr2 (Z0 x0 x1 x5)).trans (hK2 x0 x1 x5)
noncomputable def j3 (n : Nat) (kr2 : (List DRecord) → (List DRecord) → Int → Option Bool) (x0 : List DRecord) (x1 : List DRecord) (x5 : Int) : Option Bool :=
  kr2 x0 x1 (IntKind.i64.wrap (x5 + (1 : Int)))
theorem w3 (n : Nat) (Kr2 : Q) (x0 : List DRecord) (x1 : List DRecord) (x5 : Int) (K1 : Q) (Kb2 : Q) : ev (d3 n) (Z0 x0 x1 x5) (E [(0, K1)]) Kb2 =
  (Kb2 (Z0 x0 x1 (IntKind.i64.wrap (x5 + (1 : Int)))) : Option R) := by kernel_rfl
theorem s3 (n : Nat) (Kr2 : Q) (kr2 : (List DRecord) → (List DRecord) → Int → Option Bool) (hK2 : ∀ (x0 : List DRecord) (x1 : List DRecord) (x5 : Int), Kr2 (Z0 x0 x1 x5) = kr2 x0 x1 x5) (x0 : List DRecord) (x1 : List DRecord) (x5 : Int) : ev (c3 n) (Z0 x0 x1 x5) (E [(0, (K1 n))]) (Kb2 Kr2) = j3 n kr2 x0 x1 x5 := (w3 n Kr2 x0 x1 x5 (K1 n) (Kb2 Kr2)).trans (by simp -implicitDefEqProofs only [j3, qb2_0 Kr2 kr2 hK2] <;> kernel_rfl)
noncomputable def H3 (n : Nat) (K1 : Q) (Kb2 : Q) (X : XC) : Q := fun st => ghK [.keep [0, 1, 5]] st fun st => ev X st (E [(0, K1)]) Kb2
noncomputable abbrev K3 (n : Nat) (Kr2 : Q) : Q := H3 n (K1 n) (Kb2 Kr2) (c3 n)
noncomputable def db2 (n : Nat) (X3 : XC) : XC :=
  (.aft (.seq (.seq (.reg (.op (.mv 11 (.t 5)) none <| .op (.mv 12 (.t 0)) none <| .op (.len 13 (.t 12) false) none <| .op (.bin 14 .lss (.t 11) (.t 13)) none <| .nil)) <|
  (.cond (.t 14)
  .skip
  (.pre [.keep []] (.exit 0)))) <|
  (.seq (.aft (.block 1 (.seq (.regD (.op (.mv 17 (.t 0)) (some ([0, 17], [17])) <| .op (.mv 18 (.t 5)) (some ([5, 18], [18])) <| .op (.idxA 19 (.t 17) (.t 18) 9 0) (some ([17, 18, 19], [19])) <| .op (.ld 20 19 9 true) (some ([19, 20], [20])) <| .op (.mv 21 (.t 1)) (some ([1, 21], [21])) <| .op (.mv 22 (.t 5)) (some ([5, 22], [22])) <| .op (.idxA 23 (.t 21) (.t 22) 9 0) (some ([21, 22, 23], [23])) <| .op (.ld 24 23 9 true) (some ([23, 24], [24])) <| .op (.eqs 25 true (.t 20) (.t 24) TRecord) (some ([20, 24, 25], [25])) <| .nil)) <|
  (.cond (.t 25)
  (.seq (.pre [.keep []] (.reg (.op (.mv 4 (.c ⟨.bool, (false : Bool)⟩)) none <| .nil))) <|
  .ret)
  .skip))) [.keep [0, 1, 5]]) X3)) [.keep [0, 1, 5]])
noncomputable abbrev cb2 (n : Nat) : XC := db2 n (c3 n)
theorem q1_0_r (n : Nat) (X : XC)  : H1 n X [] = (ev X [] (E []) (retK rs ps r) : Option R) := by kernel_rfl
theorem q1_0 (n : Nat)  : K1 n [] = j1 n  := (q1_0_r n (c1 n) ).trans (s1 n )
noncomputable def l2 (n : Nat) : Nat → (List DRecord) → (List DRecord) → Int → Option Bool
  | 0, _, _, _ => none
  | k + 1, x0, x1, x5 =>
  bif (decide (x5 < (x0.length : Int))) then (idxK x0 x5 fun e1 => idxK x1 x5 fun e2 => bif (!((eqI e1.1.1 e2.1.1 && (eqI e1.1.2.1 e2.1.2.1 && (eqI e1.1.2.2.1 e2.1.2.2.1 && (eqS e1.1.2.2.2.1 e2.1.2.2.2.1 && (eqI e1.1.2.2.2.2.1 e2.1.2.2.2.2.1 && (eqS e1.1.2.2.2.2.2.1 e2.1.2.2.2.2.2.1 && (eqI e1.1.2.2.2.2.2.2.1 e2.1.2.2.2.2.2.2.1 && (eqS e1.1.2.2.2.2.2.2.2.1 e2.1.2.2.2.2.2.2.2.1 && true)))))))) && (eqI e1.2.1 e2.2.1 && true))) then (some false)
  else (j3 n (l2 n k) x0 x1 x5))
  else (j1 n )
theorem wb2 (n : Nat) (Kr2 : Q) (x0 : List DRecord) (x1 : List DRecord) (x5 : Int) (K1 : Q) (X3 : XC) : ev (db2 n X3) (keepSt (Z0 x0 x1 x5) [0, 1, 5]) (E [(0, K1)]) Kr2 =
  (bif (decide (x5 < (x0.length : Int))) then (idxK x0 x5 fun e1 => idxK x1 x5 fun e2 => bif (!((eqI e1.1.1 e2.1.1 && (eqI e1.1.2.1 e2.1.2.1 && (eqI e1.1.2.2.1 e2.1.2.2.1 && (eqS e1.1.2.2.2.1 e2.1.2.2.2.1 && (eqI e1.1.2.2.2.2.1 e2.1.2.2.2.2.1 && (eqS e1.1.2.2.2.2.2.1 e2.1.2.2.2.2.2.1 && (eqI e1.1.2.2.2.2.2.2.1 e2.1.2.2.2.2.2.2.1 && (eqS e1.1.2.2.2.2.2.2.2.1 e2.1.2.2.2.2.2.2.2.1 && true)))))))) && (eqI e1.2.1 e2.2.1 && true))) then (some false)
  else (ev X3 (Z0 x0 x1 x5) (E [(0, K1)]) (Kb2 Kr2)))
  else (K1 []) : Option R) := by kernel_rfl
theorem l2_ok (n : Nat) (k : Nat) : ∀ (x0 : List DRecord) (x1 : List DRecord) (x5 : Int), loopEv [0, 1, 5] (fun s K => ev (cb2 n) s (E [(0, (K1 n))]) K) k (Z0 x0 x1 x5) = l2 n k x0 x1 x5 := by
  induction k with
  | zero => intros; rfl
  | succ k ih =>
    intro x0 x1 x5
    exact (wb2 n (fun st => loopEv [0, 1, 5] (fun s K => ev (cb2 n) s (E [(0, (K1 n))]) K) k st) x0 x1 x5 (K1 n) (c3 n)).trans (by simp -implicitDefEqProofs only [l2, s3 n (fun st => loopEv [0, 1, 5] (fun s K => ev (cb2 n) s (E [(0, (K1 n))]) K) k st) (l2 n k) ih, q1_0 n] <;> kernel_rfl)
noncomputable def d (n : Nat) (X1 Y2 : XC) : XC :=
  (.seq (.reg (.op (.mv 4 (.c ⟨.bool, (false : Bool)⟩)) none <| .nil)) <|
  (.seq (.seq (.reg (.op (.mv 6 (.t 0)) none <| .op (.len 7 (.t 6) false) none <| .op (.mv 8 (.t 1)) none <| .op (.len 9 (.t 8) false) none <| .op (.bin 10 .neq (.t 7) (.t 9)) none <| .nil)) <|
  (.cond (.t 10)
  (.seq (.reg (.op (.mv 4 (.c ⟨.bool, (false : Bool)⟩)) none <| .nil)) <|
  .ret)
  .skip)) <|
  (.seq (.aft (.seq (.reg (.op (.mv 5 (.c ⟨.int .i64, ((0 : Int) : Int)⟩)) none <| .nil)) <|
  (.block 0 (.pre [.keep [0, 1, 5]] (.loop n [0, 1, 5] Y2)))) [.keep []]) X1)))
noncomputable abbrev c (n : Nat) : XC := d n (c1 n) (cb2 n)
noncomputable def f (n : Nat) (a0 : List DRecord) (a1 : List DRecord) : Option Bool :=
  bif (!decide ((a0.length : Int) = (a1.length : Int))) then (some false)
  else (l2 n n a0 a1 (0 : Int))
theorem w (n : Nat) (a0 : List DRecord) (a1 : List DRecord) (X1 Y2 : XC) : evFn (d n X1 Y2) rs ps r (a0, a1, ()) =
  (bif (!decide ((a0.length : Int) = (a1.length : Int))) then (some false)
  else (loopEv [0, 1, 5] (fun s K => ev Y2 s (E [(0, (H1 n X1))]) K) n (Z0 a0 a1 (0 : Int))) : Option R) := by kernel_rfl
theorem ok (n : Nat) (a0 : List DRecord) (a1 : List DRecord) : evFn (c n) rs ps r (a0, a1, ()) = f n a0 a1 := (w n a0 a1 (c1 n) (cb2 n)).trans (by simp -implicitDefEqProofs only [f, l2_ok n] <;> kernel_rfl)
noncomputable def sp (n : Nat) : FSpec := { f := 23, ps := ps, r := r, run := fun x => f n x.1 x.2.1 }
theorem calls (n : Nat) : (c n).calls = [] := by kernel_rfl
theorem fits (n : Nat) : fnB tab hd Try.f23 (c n) rs (sp n).ps (sp n).r = true := by kernel_rfl
theorem sound (n : Nat) : Sound Try.prog (sp n) := by
  refine fnB_sound tabOk eqFacts mixed (fn := Try.f23) (c := c n) (rs := rs) (by kernel_rfl) ?_ (fits n) ?_
  · rw [calls]
    intro s hs; cases hs
  · rintro ⟨a0, a1, ⟨⟩⟩ y h
    exact (ok n a0 a1).trans h
theorem meets (n : Nat) : Meets Try.prog (sp n) := (sound n).meets
end r08_Same
/-! backwater/backwaterref08.Clean -/
namespace r08_Clean
abbrev ps : List (Ty × Bool) := [(.slB .U false TRecord, false)]
abbrev r : Ty := .bool
abbrev rs : List RV := [.t 2]
abbrev R : Type := (rtOf ps r).den
abbrev Q : Type := St → Option R
abbrev E (l : List (Nat × Q)) : Ks R := ⟨retK rs ps r, l⟩
noncomputable def d (n : Nat) : XC :=
  (.seq (.reg (.op (.mv 2 (.c ⟨.bool, (false : Bool)⟩)) none <| .nil)) <|
  (.seq (.reg (.op (.mv 3 (.t 0)) none <| .op (.call (some 4) (r08_Optimise.sp n) [.v (.t 3)]) none <| .op (.mv 5 (.t 0)) none <| .op (.call (some 6) (r08_Same.sp n) [.v (.t 4), .v (.t 5)]) none <| .op (.mv 2 (.t 6)) none <| .nil)) <|
  .ret))
noncomputable abbrev c (n : Nat) : XC := d n
noncomputable def f (n : Nat) (a0 : List DRecord) : Option Bool :=
  (r08_Optimise.f n a0).bind fun r1 => (r08_Same.f n r1 a0).bind fun r2 => some r2
theorem ok (n : Nat) (a0 : List DRecord) : evFn (c n) rs ps r (a0, ()) = f n a0 := by kernel_rfl
noncomputable def sp (n : Nat) : FSpec := { f := 16, ps := ps, r := r, run := fun x => f n x.1 }
theorem calls (n : Nat) : (c n).calls = [r08_Optimise.sp n, r08_Same.sp n] := by kernel_rfl
theorem fits (n : Nat) : fnB tab hd Try.f16 (c n) rs (sp n).ps (sp n).r = true := by kernel_rfl
theorem sound (n : Nat) : Sound Try.prog (sp n) := by
  refine fnB_sound tabOk eqFacts mixed (fn := Try.f16) (c := c n) (rs := rs) (by kernel_rfl) ?_ (fits n) ?_
  · rw [calls]
    intro s hs
    simp only [List.mem_cons, List.not_mem_nil, or_false] at hs
    rcases hs with rfl | rfl
    · exact r08_Optimise.meets n
    · exact r08_Same.meets n
  · rintro ⟨a0, ⟨⟩⟩ y h
    exact (ok n a0).trans h
theorem meets (n : Nat) : Meets Try.prog (sp n) := (sound n).meets
end r08_Clean
/-! backwater/backwaterlaw08.CmlOptimises -/
namespace law08_CmlOptimises
abbrev ps : List (Ty × Bool) := [(.slB .U false TRecord, false)]
abbrev r : Ty := .bool
abbrev rs : List RV := [.t 2]
abbrev R : Type := (rtOf ps r).den
abbrev Q : Type := St → Option R
abbrev E (l : List (Nat × Q)) : Ks R := ⟨retK rs ps r, l⟩
noncomputable def d (n : Nat) : XC :=
  (.seq (.reg (.op (.mv 2 (.c ⟨.bool, (false : Bool)⟩)) none <| .nil)) <|
  (.seq (.reg (.op (.mv 3 (.t 0)) none <| .op (.call (some 4) (law08_few.sp n) [.v (.t 3)]) none <| .op (.mv 0 (.t 4)) none <| .nil)) <|
  (.seq (.reg (.op (.call (some 5) (law08_live.sp n) []) none <| .op (.mv 6 (.t 5)) none <| .grp 6 true (.op (.mv 7 (.t 0)) (some ([0, 6, 7], [7])) <| .op (.call (some 8) (cml_Optimise.sp n) [.v (.t 7)]) (some ([6, 7, 8], [8])) <| .op (.mv 9 (.t 0)) (some ([0, 6, 9], [9])) <| .op (.call (some 10) (r08_Optimise.sp n) [.v (.t 9)]) (some ([6, 9, 10], [10])) <| .op (.call (some 11) (cml_Same.sp n) [.v (.t 8), .v (.t 10)]) (some ([6, 8, 10, 11], [11])) <| .nil) 11 12 [7, 8, 9, 10, 11] <| .op (.mv 13 (.t 12)) none <| .grp 13 true (.op (.mv 14 (.t 0)) (some ([0, 13, 14], [14])) <| .op (.call (some 15) (cml_Clean.sp n) [.v (.t 14)]) (some ([13, 14, 15], [15])) <| .op (.mv 16 (.t 0)) (some ([0, 13, 16], [16])) <| .op (.call (some 17) (r08_Clean.sp n) [.v (.t 16)]) (some ([13, 16, 17], [17])) <| .op (.eqs 18 false (.t 15) (.t 17) .bool) (some ([13, 15, 17, 18], [18])) <| .nil) 18 19 [14, 15, 16, 17, 18] <| .op (.mv 2 (.t 19)) none <| .nil)) <|
  .ret)))
noncomputable abbrev c (n : Nat) : XC := d n
noncomputable def f (n : Nat) (a0 : List DRecord) : Option Bool :=
  (law08_few.f n a0).bind fun r1 => (law08_live.f n).bind fun r2 => (bif r2 then ((cml_Optimise.f n r1).bind fun r4 => (r08_Optimise.f n r1).bind fun r5 => (cml_Same.f n r4 r5).bind fun r6 => some r6) else some false).bind fun g3 =>
  (bif g3 then ((cml_Clean.f n r1).bind fun r8 => (r08_Clean.f n r1).bind fun r9 => some (bbeq r8 r9)) else some false).bind fun g7 =>
  some g7
theorem ok (n : Nat) (a0 : List DRecord) : evFn (c n) rs ps r (a0, ()) = f n a0 := by kernel_rfl
noncomputable def sp (n : Nat) : FSpec := { f := 3, ps := ps, r := r, run := fun x => f n x.1 }
theorem calls (n : Nat) : (c n).calls = [law08_few.sp n, law08_live.sp n, cml_Optimise.sp n, r08_Optimise.sp n, cml_Same.sp n, cml_Clean.sp n, r08_Clean.sp n] := by kernel_rfl
theorem fits (n : Nat) : fnB tab hd Try.f3 (c n) rs (sp n).ps (sp n).r = true := by kernel_rfl
theorem sound (n : Nat) : Sound Try.prog (sp n) := by
  refine fnB_sound tabOk eqFacts mixed (fn := Try.f3) (c := c n) (rs := rs) (by kernel_rfl) ?_ (fits n) ?_
  · rw [calls]
    intro s hs
    simp only [List.mem_cons, List.not_mem_nil, or_false] at hs
    rcases hs with rfl | rfl | rfl | rfl | rfl | rfl | rfl
    · exact law08_few.meets n
    · exact law08_live.meets n
    · exact cml_Optimise.meets n
    · exact r08_Optimise.meets n
    · exact cml_Same.meets n
    · exact cml_Clean.meets n
    · exact r08_Clean.meets n
  · rintro ⟨a0, ⟨⟩⟩ y h
    exact (ok n a0).trans h
theorem meets (n : Nat) : Meets Try.prog (sp n) := (sound n).meets
end law08_CmlOptimises
/-! backwater/backwaterlaw08.CmlTwice -/
namespace law08_CmlTwice
abbrev ps : List (Ty × Bool) := [(.slB .U false TRecord, false)]
abbrev r : Ty := .bool
abbrev rs : List RV := [.t 2]
abbrev R : Type := (rtOf ps r).den
abbrev Q : Type := St → Option R
abbrev E (l : List (Nat × Q)) : Ks R := ⟨retK rs ps r, l⟩
noncomputable def d (n : Nat) : XC :=
  (.seq (.reg (.op (.mv 2 (.c ⟨.bool, (false : Bool)⟩)) none <| .nil)) <|
  (.seq (.reg (.op (.mv 4 (.t 0)) none <| .op (.call (some 5) (law08_few.sp n) [.v (.t 4)]) none <| .op (.mv 0 (.t 5)) none <| .nil)) <|
  (.seq (.reg (.op (.mv 6 (.t 0)) none <| .op (.call (some 7) (cml_Optimise.sp n) [.v (.t 6)]) none <| .op (.take 3 7) none <| .nil)) <|
  (.seq (.reg (.op (.call (some 8) (law08_live.sp n) []) none <| .op (.mv 9 (.t 8)) none <| .grp 9 true (.op (.bor 10 3) (some ([3, 9, 10], [10])) <| .op (.call (some 11) (cml_Optimise.sp n) [.v (.t 10)]) (some ([3, 9, 10, 11], [11])) <| .op (.bor 12 3) (some ([3, 9, 12], [12])) <| .op (.call (some 13) (cml_Same.sp n) [.v (.t 11), .v (.t 12)]) (some ([3, 9, 11, 12, 13], [13])) <| .nil) 13 14 [10, 11, 12, 13] <| .op (.mv 15 (.t 14)) none <| .grp 15 true (.op (.bor 16 3) (some ([3, 15, 16], [16])) <| .op (.call (some 17) (cml_Clean.sp n) [.v (.t 16)]) (some ([3, 15, 16, 17], [17])) <| .nil) 17 18 [16, 17] <| .op (.mv 19 (.t 18)) none <| .grp 19 true (.op (.bor 20 3) (some ([3, 19, 20], [20])) <| .op (.len 21 (.t 20) false) (some ([3, 19, 20, 21], [21])) <| .op (.mv 22 (.t 0)) (some ([0, 19, 22], [22])) <| .op (.len 23 (.t 22) false) (some ([19, 22, 23], [23])) <| .op (.bin 24 .leq (.t 21) (.t 23)) (some ([19, 21, 23, 24], [24])) <| .nil) 24 25 [20, 21, 22, 23, 24] <| .op (.mv 2 (.t 25)) none <| .nil)) <|
  .ret))))
noncomputable abbrev c (n : Nat) : XC := d n
noncomputable def f (n : Nat) (a0 : List DRecord) : Option Bool :=
  (law08_few.f n a0).bind fun r1 => (cml_Optimise.f n r1).bind fun r2 => (law08_live.f n).bind fun r3 => (bif r3 then ((cml_Optimise.f n r2).bind fun r5 => (cml_Same.f n r5 r2).bind fun r6 => some r6) else some false).bind fun g4 =>
  (bif g4 then ((cml_Clean.f n r2).bind fun r8 => some r8) else some false).bind fun g7 =>
  (bif g7 then (some (decide ((r2.length : Int) ≤ (r1.length : Int)))) else some false).bind fun g9 =>
  some g9
theorem ok (n : Nat) (a0 : List DRecord) : evFn (c n) rs ps r (a0, ()) = f n a0 := by kernel_rfl
noncomputable def sp (n : Nat) : FSpec := { f := 4, ps := ps, r := r, run := fun x => f n x.1 }
theorem calls (n : Nat) : (c n).calls = [law08_few.sp n, cml_Optimise.sp n, law08_live.sp n, cml_Optimise.sp n, cml_Same.sp n, cml_Clean.sp n] := by kernel_rfl
theorem fits (n : Nat) : fnB tab hd Try.f4 (c n) rs (sp n).ps (sp n).r = true := by kernel_rfl
theorem sound (n : Nat) : Sound Try.prog (sp n) := by
  refine fnB_sound tabOk eqFacts mixed (fn := Try.f4) (c := c n) (rs := rs) (by kernel_rfl) ?_ (fits n) ?_
  · rw [calls]
    intro s hs
    simp only [List.mem_cons, List.not_mem_nil, or_false] at hs
    rcases hs with rfl | rfl | rfl | rfl | rfl | rfl
    · exact law08_few.meets n
    · exact cml_Optimise.meets n
    · exact law08_live.meets n
    · exact cml_Optimise.meets n
    · exact cml_Same.meets n
    · exact cml_Clean.meets n
  · rintro ⟨a0, ⟨⟩⟩ y h
    exact (ok n a0).trans h
theorem meets (n : Nat) : Meets Try.prog (sp n) := (sound n).meets
end law08_CmlTwice
/-! backwater/backwaterlaw08.CmlPart -/
namespace law08_CmlPart
abbrev ps : List (Ty × Bool) := [(.slB .U false TRecord, false)]
abbrev r : Ty := .bool
abbrev rs : List RV := [.t 2]
abbrev R : Type := (rtOf ps r).den
abbrev Q : Type := St → Option R
abbrev E (l : List (Nat × Q)) : Ks R := ⟨retK rs ps r, l⟩
abbrev Z0 (x3 : Ty.den (.slX .U TRecord)) (x4 : Ty.den (.int .i64)) : St := [(3, some ⟨.slX .U TRecord, x3⟩), (4, some ⟨.int .i64, x4⟩)]
abbrev Z1 (x0 : Ty.den (.slB .U false TRecord)) (x3 : Ty.den (.slX .U TRecord)) (x4 : Ty.den (.int .i64)) (x5 : Ty.den (.int .i64)) : St := [(0, some ⟨.slB .U false TRecord, x0⟩), (3, some ⟨.slX .U TRecord, x3⟩), (4, some ⟨.int .i64, x4⟩), (5, some ⟨.int .i64, x5⟩)]
noncomputable def d1 (n : Nat) : XC :=
  (.seq (.reg (.op (.call (some 33) (law08_live.sp n) []) none <| .op (.mv 34 (.t 33)) none <| .grp 34 true (.op (.mv 35 (.t 4)) (some ([4, 34, 35], [35])) <| .op (.bor 36 3) (some ([3, 34, 36], [36])) <| .op (.len 37 (.t 36) false) (some ([3, 34, 36, 37], [37])) <| .op (.bin 38 .eql (.t 35) (.t 37)) (some ([34, 35, 37, 38], [38])) <| .nil) 38 39 [35, 36, 37, 38] <| .op (.mv 2 (.t 39)) none <| .nil)) <|
  .ret)
noncomputable abbrev c1 (n : Nat) : XC := d1 n
noncomputable def j1 (n : Nat) (x3 : List DRecord) (x4 : Int) : Option Bool :=
  (law08_live.f n).bind fun r1 => (bif r1 then (some (decide (x4 = (x3.length : Int)))) else some false).bind fun g2 =>
  some g2
theorem s1 (n : Nat) (x3 : List DRecord) (x4 : Int) : ev (c1 n) (Z0 x3 x4) (E []) (retK rs ps r) = j1 n x3 x4 := by kernel_rfl
noncomputable def H1 (n : Nat) (X : XC) : Q := fun st => ghK [.keep [3, 4]] st fun st => ev X st (E []) (retK rs ps r)
noncomputable abbrev K1 (n : Nat) : Q := H1 n (c1 n)
noncomputable def Kb2 (Kr2 : Q) : Q := fun st => ghK [.keep [0, 3, 4, 5]] st Kr2
noncomputable def d3 (n : Nat) : XC :=
  (.aft (.reg (.op (.mv 20 (.t 5)) none <| .op (.bin 21 .add (.t 20) (.c ⟨.int .i64, ((1 : Int) : Int)⟩)) none <| .op (.mv 5 (.t 21)) none <| .nil)) [.keep [0, 3, 4, 5]])
noncomputable abbrev c3 (n : Nat) : XC := d3 n
theorem qb2_0 (Kr2 : Q) (kr2 : (List DRecord) → (List DRecord) → Int → Int → Option Bool) (hK2 : ∀ (x0 : List DRecord) (x3 : List DRecord) (x4 : Int) (x5 : Int), Kr2 (Z1 x0 x3 x4 x5) = kr2 x0 x3 x4 x5) (x0 : List DRecord) (x3 : List DRecord) (x4 : Int) (x5 : Int) : Kb2 Kr2 (Z1 x0 x3 x4 x5) = kr2 x0 x3 x4 x5 := (by kernel_rfl : _ = Kr2 (Z1 x0 x3 x4 x5)).trans (hK2 x0 x3 x4 x5)
noncomputable def j3 (n : Nat) (kr2 : (List DRecord) → (List DRecord) → Int → Int → Option Bool) (x0 : List DRecord) (x3 : List DRecord) (x4 : Int) (x5 : Int) : Option Bool :=
  kr2 x0 x3 x4 (IntKind.i64.wrap (x5 + (1 : Int)))
theorem w3 (n : Nat) (Kr2 : Q) (x0 : List DRecord) (x3 : List DRecord) (x4 : Int) (x5 : Int) (K1 : Q) (Kb2 : Q) : ev (d3 n) (Z1 x0 x3 x4 x5) (E [(0, K1)]) Kb2 =
  (Kb2 (Z1 x0 x3 x4 (IntKind.i64.wrap (x5 + (1 : Int)))) : Option R) := by kernel_rfl
theorem s3 (n : Nat) (Kr2 : Q) (kr2 : (List DRecord) → (List DRecord) → Int → Int → Option Bool) (hK2 : ∀ (x0 : List DRecord) (x3 : List DRecord) (x4 : Int) (x5 : Int), Kr2 (Z1 x0 x3 x4 x5) = kr2 x0 x3 x4 x5) (x0 : List DRecord) (x3 : List DRecord) (x4 : Int) (x5 : Int) : ev (c3 n) (Z1 x0 x3 x4 x5) (E [(0, (K1 n))]) (Kb2 Kr2) = j3 n kr2 x0 x3 x4 x5 := (w3 n Kr2 x0 x3 x4 x5 (K1 n) (Kb2 Kr2)).trans (by simp -implicitDefEqProofs only [j3, qb2_0 Kr2 kr2 hK2] <;> kernel_rfl)
noncomputable def H3 (n : Nat) (K1 : Q) (Kb2 : Q) (X : XC) : Q := fun st => ghK [.keep [0, 3, 4, 5]] st fun st => ev X st (E [(0, K1)]) Kb2
noncomputable abbrev K3 (n : Nat) (Kr2 : Q) : Q := H3 n (K1 n) (Kb2 Kr2) (c3 n)
noncomputable def db2 (n : Nat) (X3 : XC) : XC :=
  (.aft (.seq (.seq (.reg (.op (.mv 10 (.t 5)) none <| .op (.mv 11 (.t 0)) none <| .op (.len 12 (.t 11) false) none <| .op (.bin 13 .lss (.t 10) (.t 12)) none <| .op (.mv 14 (.t 13)) none <| .grp 14 true (.op (.mv 15 (.t 4)) (some ([4, 14, 15], [15])) <| .op (.bor 16 3) (some ([3, 14, 16], [16])) <| .op (.len 17 (.t 16) false) (some ([3, 14, 16, 17], [17])) <| .op (.bin 18 .lss (.t 15) (.t 17)) (some ([14, 15, 17, 18], [18])) <| .nil) 18 19 [15, 16, 17, 18] <| .nil)) <|
  (.cond (.t 19)
  .skip
  (.pre [.keep [3, 4]] (.exit 0)))) <|
  (.seq (.aft (.block 1 (.seq (.regD (.op (.mv 22 (.t 0)) (some ([0, 22], [22])) <| .op (.mv 23 (.t 5)) (some ([5, 23], [23])) <| .op (.idxA 24 (.t 22) (.t 23) 9 0) (some ([22, 23, 24], [24])) <| .op (.ld 25 24 9 true) (some ([24, 25], [25])) <| .op (.bor 26 3) (some ([3, 26], [26])) <| .op (.mv 27 (.t 4)) (some ([4, 27], [27])) <| .op (.idxA 28 (.t 26) (.t 27) 9 0) (some ([3, 26, 27, 28], [28])) <| .op (.ld 29 28 9 true) (some ([3, 28, 29], [29])) <| .op (.eqs 30 false (.t 25) (.t 29) TRecord) (some ([25, 29, 30], [30])) <| .nil)) <|
  (.cond (.t 30)
  (.pre [.keep [0, 3, 4, 5]] (.reg (.op (.mv 31 (.t 4)) none <| .op (.bin 32 .add (.t 31) (.c ⟨.int .i64, ((1 : Int) : Int)⟩)) none <| .op (.mv 4 (.t 32)) none <| .nil)))
  .skip))) [.keep [0, 3, 4, 5]]) X3)) [.keep [0, 3, 4, 5]])
noncomputable abbrev cb2 (n : Nat) : XC := db2 n (c3 n)
theorem q1_0_r (n : Nat) (X : XC) (x3 : List DRecord) (x4 : Int) : H1 n X (Z0 x3 x4) = (ev X (Z0 x3 x4) (E []) (retK rs ps r) : Option R) := by kernel_rfl
theorem q1_0 (n : Nat) (x3 : List DRecord) (x4 : Int) : K1 n (Z0 x3 x4) = j1 n x3 x4 := (q1_0_r n (c1 n) x3 x4).trans (s1 n x3 x4)
noncomputable def l2 (n : Nat) : Nat → (List DRecord) → (List DRecord) → Int → Int → Option Bool
  | 0, _, _, _, _ => none
  | k + 1, x0, x3, x4, x5 =>
  (bif (decide (x5 < (x0.length : Int))) then (some (decide (x4 < (x3.length : Int)))) else some false).bind fun g1 =>
  bif g1 then (idxK x0 x5 fun e2 => idxK x3 x4 fun e3 => bif (((eqI e2.1.1 e3.1.1 && (eqI e2.1.2.1 e3.1.2.1 && (eqI e2.1.2.2.1 e3.1.2.2.1 && (eqS e2.1.2.2.2.1 e3.1.2.2.2.1 && (eqI e2.1.2.2.2.2.1 e3.1.2.2.2.2.1 && (eqS e2.1.2.2.2.2.2.1 e3.1.2.2.2.2.2.1 && (eqI e2.1.2.2.2.2.2.2.1 e3.1.2.2.2.2.2.2.1 && (eqS e2.1.2.2.2.2.2.2.2.1 e3.1.2.2.2.2.2.2.2.1 && true)))))))) && (eqI e2.2.1 e3.2.1 && true))) then (j3 n (l2 n k) x0 x3 (IntKind.i64.wrap (x4 + (1 : Int))) x5)
  else (j3 n (l2 n k) x0 x3 x4 x5))
  else (j1 n x3 x4)
theorem wb2 (n : Nat) (Kr2 : Q) (x0 : List DRecord) (x3 : List DRecord) (x4 : Int) (x5 : Int) (K1 : Q) (X3 : XC) : ev (db2 n X3) (keepSt (Z1 x0 x3 x4 x5) [0, 3, 4, 5]) (E [(0, K1)]) Kr2 =
  ((bif (decide (x5 < (x0.length : Int))) then (some (decide (x4 < (x3.length : Int)))) else some false).bind fun g1 =>
  bif g1 then (idxK x0 x5 fun e2 => idxK x3 x4 fun e3 => bif (((eqI e2.1.1 e3.1.1 && (eqI e2.1.2.1 e3.1.2.1 && (eqI e2.1.2.2.1 e3.1.2.2.1 && (eqS e2.1.2.2.2.1 e3.1.2.2.2.1 && (eqI e2.1.2.2.2.2.1 e3.1.2.2.2.2.1 && (eqS e2.1.2.2.2.2.2.1 e3.1.2.2.2.2.2.1 && (eqI e2.1.2.2.2.2.2.2.1 e3.1.2.2.2.2.2.2.1 && (eqS e2.1.2.2.2.2.2.2.2.1 e3.1.2.2.2.2.2.2.2.1 && true)))))))) && (eqI e2.2.1 e3.2.1 && true))) then (ev X3 (Z1 x0 x3 (IntKind.i64.wrap (x4 + (1 : Int))) x5) (E [(0, K1)]) (Kb2 Kr2))
  else (ev X3 (Z1 x0 x3 x4 x5) (E [(0, K1)]) (Kb2 Kr2)))
  else (K1 (Z0 x3 x4)) : Option R) := by kernel_rfl
theorem l2_ok (n : Nat) (k : Nat) : ∀ (x0 : List DRecord) (x3 : List DRecord) (x4 : Int) (x5 : Int), loopEv [0, 3, 4, 5] (fun s K => ev (cb2 n) s (E [(0, (K1 n))]) K) k (Z1 x0 x3 x4 x5) = l2 n k x0 x3 x4 x5 := by
  induction k with
  | zero => intros; rfl
  | succ k ih =>
    intro x0 x3 x4 x5
    exact (wb2 n (fun st => loopEv [0, 3, 4, 5] (fun s K => ev (cb2 n) s (E [(0, (K1 n))]) K) k st) x0 x3 x4 x5 (K1 n) (c3 n)).trans (by simp -implicitDefEqProofs only [l2, s3 n (fun st => loopEv [0, 3, 4, 5] (fun s K => ev (cb2 n) s (E [(0, (K1 n))]) K) k st) (l2 n k) ih, q1_0 n] <;> kernel_rfl)
noncomputable def d (n : Nat) (X1 Y2 : XC) : XC :=
  (.seq (.reg (.op (.mv 2 (.c ⟨.bool, (false : Bool)⟩)) none <| .nil)) <|
  (.seq (.reg (.op (.mv 6 (.t 0)) none <| .op (.call (some 7) (law08_few.sp n) [.v (.t 6)]) none <| .op (.mv 0 (.t 7)) none <| .nil)) <|
  (.seq (.reg (.op (.mv 8 (.t 0)) none <| .op (.call (some 9) (cml_Optimise.sp n) [.v (.t 8)]) none <| .op (.take 3 9) none <| .nil)) <|
  (.seq (.reg (.op (.mv 4 (.c ⟨.int .i64, ((0 : Int) : Int)⟩)) none <| .nil)) <|
  (.seq (.aft (.seq (.reg (.op (.mv 5 (.c ⟨.int .i64, ((0 : Int) : Int)⟩)) none <| .nil)) <|
  (.block 0 (.pre [.keep [0, 3, 4, 5]] (.loop n [0, 3, 4, 5] Y2)))) [.keep [3, 4]]) X1)))))
noncomputable abbrev c (n : Nat) : XC := d n (c1 n) (cb2 n)
noncomputable def f (n : Nat) (a0 : List DRecord) : Option Bool :=
  (law08_few.f n a0).bind fun r1 => (cml_Optimise.f n r1).bind fun r2 => l2 n n r1 r2 (0 : Int) (0 : Int)
theorem w (n : Nat) (a0 : List DRecord) (X1 Y2 : XC) : evFn (d n X1 Y2) rs ps r (a0, ()) =
  ((law08_few.f n a0).bind fun r1 => (cml_Optimise.f n r1).bind fun r2 => loopEv [0, 3, 4, 5] (fun s K => ev Y2 s (E [(0, (H1 n X1))]) K) n (Z1 r1 r2 (0 : Int) (0 : Int)) : Option R) := by kernel_rfl
theorem ok (n : Nat) (a0 : List DRecord) : evFn (c n) rs ps r (a0, ()) = f n a0 := (w n a0 (c1 n) (cb2 n)).trans (by simp -implicitDefEqProofs only [f, l2_ok n] <;> kernel_rfl)
noncomputable def sp (n : Nat) : FSpec := { f := 5, ps := ps, r := r, run := fun x => f n x.1 }
theorem calls (n : Nat) : (c n).calls = [law08_few.sp n, cml_Optimise.sp n, law08_live.sp n] := by kernel_rfl
theorem fits (n : Nat) : fnB tab hd Try.f5 (c n) rs (sp n).ps (sp n).r = true := by kernel_rfl
theorem sound (n : Nat) : Sound Try.prog (sp n) := by
  refine fnB_sound tabOk eqFacts mixed (fn := Try.f5) (c := c n) (rs := rs) (by kernel_rfl) ?_ (fits n) ?_
  · rw [calls]
    intro s hs
    simp only [List.mem_cons, List.not_mem_nil, or_false] at hs
    rcases hs with rfl | rfl | rfl
    · exact law08_few.meets n
    · exact cml_Optimise.meets n
    · exact law08_live.meets n
  · rintro ⟨a0, ⟨⟩⟩ y h
    exact (ok n a0).trans h
theorem meets (n : Nat) : Meets Try.prog (sp n) := (sound n).meets
end law08_CmlPart
/-! backwater/cml.Cut -/
namespace cml_Cut
abbrev ps : List (Ty × Bool) := [(.slB .U false TRecord, false), (.int .i64, false)]
abbrev r : Ty := .slX .U TRecord
abbrev rs : List RV := [.t 4]
abbrev R : Type := (rtOf ps r).den
abbrev Q : Type := St → Option R
abbrev E (l : List (Nat × Q)) : Ks R := ⟨retK rs ps r, l⟩
noncomputable def d (n : Nat) : XC :=
  (.seq (.reg (.op (.mv 4 (.c ⟨.nil 0, ()⟩)) none <| .nil)) <|
  (.seq (.reg (.op (.mv 5 (.t 0)) none <| .op (.mv 6 (.t 1)) none <| .op (.mnx 7 true (.t 6) (.c ⟨.int .i64, ((0 : Int) : Int)⟩)) none <| .op (.mv 8 (.t 0)) none <| .op (.len 9 (.t 8) false) none <| .op (.mnx 10 false (.t 7) (.t 9)) none <| .op (.slc 11 (.t 5) none (some (.t 10)) none 9) none <| .op (.call (some 12) (slices_Clone.sp n) [.v (.t 11)]) none <| .op (.take 4 12) none <| .nil)) <|
  .ret))
noncomputable abbrev c (n : Nat) : XC := d n
noncomputable def f (n : Nat) (a0 : List DRecord) (a1 : Int) : Option (List DRecord) :=
  sliceK 0 (imin (imax a1 (0 : Int)) (a0.length : Int)) a0.length ((slices_Clone.f n (cut a0 0 (imin (imax a1 (0 : Int)) (a0.length : Int)))).bind fun r1 => some r1)
theorem ok (n : Nat) (a0 : List DRecord) (a1 : Int) : evFn (c n) rs ps r (a0, a1, ()) = f n a0 a1 := by kernel_rfl
noncomputable def sp (n : Nat) : FSpec := { f := 17, ps := ps, r := r, run := fun x => f n x.1 x.2.1 }
theorem calls (n : Nat) : (c n).calls = [slices_Clone.sp n] := by kernel_rfl
theorem fits (n : Nat) : fnB tab hd Try.f17 (c n) rs (sp n).ps (sp n).r = true := by kernel_rfl
theorem sound (n : Nat) : Sound Try.prog (sp n) := by
  refine fnB_sound tabOk eqFacts mixed (fn := Try.f17) (c := c n) (rs := rs) (by kernel_rfl) ?_ (fits n) ?_
  · rw [calls]
    intro s hs
    simp only [List.mem_cons, List.not_mem_nil, or_false] at hs
    rcases hs with rfl
    · exact slices_Clone.meets n
  · rintro ⟨a0, a1, ⟨⟩⟩ y h
    exact (ok n a0 a1).trans h
theorem meets (n : Nat) : Meets Try.prog (sp n) := (sound n).meets
end cml_Cut
/-! backwater/cml.Drop -/
namespace cml_Drop
abbrev ps : List (Ty × Bool) := [(.slB .U false TRecord, false), (.int .i64, false)]
abbrev r : Ty := .slX .U TRecord
abbrev rs : List RV := [.t 4]
abbrev R : Type := (rtOf ps r).den
abbrev Q : Type := St → Option R
abbrev E (l : List (Nat × Q)) : Ks R := ⟨retK rs ps r, l⟩
noncomputable def d (n : Nat) : XC :=
  (.seq (.reg (.op (.mv 4 (.c ⟨.nil 0, ()⟩)) none <| .nil)) <|
  (.seq (.reg (.op (.mv 5 (.t 0)) none <| .op (.mv 6 (.t 1)) none <| .op (.mnx 7 true (.t 6) (.c ⟨.int .i64, ((0 : Int) : Int)⟩)) none <| .op (.mv 8 (.t 0)) none <| .op (.len 9 (.t 8) false) none <| .op (.mnx 10 false (.t 7) (.t 9)) none <| .op (.slc 11 (.t 5) (some (.t 10)) none none 9) none <| .op (.call (some 12) (slices_Clone.sp n) [.v (.t 11)]) none <| .op (.take 4 12) none <| .nil)) <|
  .ret))
noncomputable abbrev c (n : Nat) : XC := d n
noncomputable def f (n : Nat) (a0 : List DRecord) (a1 : Int) : Option (List DRecord) :=
  sliceK (imin (imax a1 (0 : Int)) (a0.length : Int)) (a0.length : Int) a0.length ((slices_Clone.f n (cut a0 (imin (imax a1 (0 : Int)) (a0.length : Int)) (a0.length : Int))).bind fun r1 => some r1)
theorem ok (n : Nat) (a0 : List DRecord) (a1 : Int) : evFn (c n) rs ps r (a0, a1, ()) = f n a0 a1 := by kernel_rfl
noncomputable def sp (n : Nat) : FSpec := { f := 18, ps := ps, r := r, run := fun x => f n x.1 x.2.1 }
theorem calls (n : Nat) : (c n).calls = [slices_Clone.sp n] := by kernel_rfl
theorem fits (n : Nat) : fnB tab hd Try.f18 (c n) rs (sp n).ps (sp n).r = true := by kernel_rfl
theorem sound (n : Nat) : Sound Try.prog (sp n) := by
  refine fnB_sound tabOk eqFacts mixed (fn := Try.f18) (c := c n) (rs := rs) (by kernel_rfl) ?_ (fits n) ?_
  · rw [calls]
    intro s hs
    simp only [List.mem_cons, List.not_mem_nil, or_false] at hs
    rcases hs with rfl
    · exact slices_Clone.meets n
  · rintro ⟨a0, a1, ⟨⟩⟩ y h
    exact (ok n a0 a1).trans h
theorem meets (n : Nat) : Meets Try.prog (sp n) := (sound n).meets
end cml_Drop
/-! backwater/backwaterref08.Cut -/
namespace r08_Cut
abbrev ps : List (Ty × Bool) := [(.slB .U false TRecord, false), (.int .i64, false)]
abbrev r : Ty := .slX .N TRecord
abbrev rs : List RV := [.t 4]
abbrev R : Type := (rtOf ps r).den
abbrev Q : Type := St → Option R
abbrev E (l : List (Nat × Q)) : Ks R := ⟨retK rs ps r, l⟩
abbrev Z0 (x5 : Ty.den (.slX .N TRecord)) : St := [(5, some ⟨.slX .N TRecord, x5⟩)]
abbrev Z1 (x0 : Ty.den (.slB .U false TRecord)) (x1 : Ty.den (.int .i64)) (x5 : Ty.den (.slX .N TRecord)) (x6 : Ty.den (.int .i64)) : St := [(0, some ⟨.slB .U false TRecord, x0⟩), (1, some ⟨.int .i64, x1⟩), (5, some ⟨.slX .N TRecord, x5⟩), (6, some ⟨.int .i64, x6⟩)]
noncomputable def d1 (n : Nat) : XC :=
  (.seq (.reg (.op (.take 25 5) none <| .op (.take 4 25) none <| .nil)) <|
  .ret)
noncomputable abbrev c1 (n : Nat) : XC := d1 n
noncomputable def j1 (n : Nat) (x5 : List DRecord) : Option (List DRecord) :=
  some x5
theorem s1 (n : Nat) (x5 : List DRecord) : ev (c1 n) (Z0 x5) (E []) (retK rs ps r) = j1 n x5 := by kernel_rfl
noncomputable def H1 (n : Nat) (X : XC) : Q := fun st => ghK [.keep [5]] st fun st => ev X st (E []) (retK rs ps r)
noncomputable abbrev K1 (n : Nat) : Q := H1 n (c1 n)
noncomputable def Kb2 (Kr2 : Q) : Q := fun st => ghK [.keep [0, 1, 5, 6]] st Kr2
noncomputable def d3 (n : Nat) : XC :=
  (.aft (.reg (.op (.mv 16 (.t 6)) none <| .op (.bin 17 .add (.t 16) (.c ⟨.int .i64, ((1 : Int) : Int)⟩)) none <| .op (.mv 6 (.t 17)) none <| .nil)) [.keep [0, 1, 5, 6]])
noncomputable abbrev c3 (n : Nat) : XC := d3 n
theorem qb2_0 (Kr2 : Q) (kr2 : (List DRecord) → Int → (List DRecord) → Int → Option (List DRecord)) (hK2 : ∀ (x0 : List DRecord) (x1 : Int) (x5 : List DRecord) (x6 : Int), Kr2 (Z1 x0 x1 x5 x6) = kr2 x0 x1 x5 x6) (x0 : List DRecord) (x1 : Int) (x5 : List DRecord) (x6 : Int) : Kb2 Kr2 (Z1 x0 x1 x5 x6) = kr2 x0 x1 x5 x6 := (by kernel_rfl : _ = Kr2 (Z1 x0 x1 x5 x6)).trans (hK2 x0 x1 x5 x6)
noncomputable def j3 (n : Nat) (kr2 : (List DRecord) → Int → (List DRecord) → Int → Option (List DRecord)) (x0 : List DRecord) (x1 : Int) (x5 : List DRecord) (x6 : Int) : Option (List DRecord) :=
  kr2 x0 x1 x5 (IntKind.i64.wrap (x6 + (1 : Int)))
theorem w3 (n : Nat) (Kr2 : Q) (x0 : List DRecord) (x1 : Int) (x5 : List DRecord) (x6 : Int) (K1 : Q) (Kb2 : Q) : ev (d3 n) (Z1 x0 x1 x5 x6) (E [(0, K1)]) Kb2 =
  (Kb2 (Z1 x0 x1 x5 (IntKind.i64.wrap (x6 + (1 : Int)))) : Option R) := by kernel_rfl
theorem s3 (n : Nat) (Kr2 : Q) (kr2 : (List DRecord) → Int → (List DRecord) → Int → Option (List DRecord)) (hK2 : ∀ (x0 : List DRecord) (x1 : Int) (x5 : List DRecord) (x6 : Int), Kr2 (Z1 x0 x1 x5 x6) = kr2 x0 x1 x5 x6) (x0 : List DRecord) (x1 : Int) (x5 : List DRecord) (x6 : Int) : ev (c3 n) (Z1 x0 x1 x5 x6) (E [(0, (K1 n))]) (Kb2 Kr2) = j3 n kr2 x0 x1 x5 x6 := (w3 n Kr2 x0 x1 x5 x6 (K1 n) (Kb2 Kr2)).trans (by simp -implicitDefEqProofs only [j3, qb2_0 Kr2 kr2 hK2] <;> kernel_rfl)
noncomputable def H3 (n : Nat) (K1 : Q) (Kb2 : Q) (X : XC) : Q := fun st => ghK [.keep [0, 1, 5, 6]] st fun st => ev X st (E [(0, K1)]) Kb2
noncomputable abbrev K3 (n : Nat) (Kr2 : Q) : Q := H3 n (K1 n) (Kb2 Kr2) (c3 n)
noncomputable def db2 (n : Nat) (X3 : XC) : XC :=
  (.aft (.seq (.seq (.reg (.op (.mv 7 (.t 6)) none <| .op (.mv 8 (.t 0)) none <| .op (.len 9 (.t 8) false) none <| .op (.bin 10 .lss (.t 7) (.t 9)) none <| .op (.mv 11 (.t 10)) none <| .grp 11 true (.op (.mv 12 (.t 6)) (some ([6, 11, 12], [12])) <| .op (.mv 13 (.t 1)) (some ([1, 11, 13], [13])) <| .op (.bin 14 .lss (.t 12) (.t 13)) (some ([11, 12, 13, 14], [14])) <| .nil) 14 15 [12, 13, 14] <| .nil)) <|
  (.cond (.t 15)
  .skip
  (.pre [.keep [5]] (.exit 0)))) <|
  (.seq (.aft (.block 1 (.reg (.op (.take 18 5) none <| .op (.mv 19 (.t 0)) none <| .op (.mv 20 (.t 6)) none <| .op (.idxA 21 (.t 19) (.t 20) 9 0) none <| .op (.ld 22 21 9 true) none <| .op (.bsl 23 TRecord [(.t 22)]) none <| .op (.app 24 18 (.t 23) 88 9) none <| .op (.take 5 24) none <| .nil))) [.keep [0, 1, 5, 6]]) X3)) [.keep [0, 1, 5, 6]])
noncomputable abbrev cb2 (n : Nat) : XC := db2 n (c3 n)
theorem q1_0_r (n : Nat) (X : XC) (x5 : List DRecord) : H1 n X (Z0 x5) = (ev X (Z0 x5) (E []) (retK rs ps r) : Option R) := by kernel_rfl
theorem q1_0 (n : Nat) (x5 : List DRecord) : K1 n (Z0 x5) = j1 n x5 := (q1_0_r n (c1 n) x5).trans (s1 n x5)
noncomputable def l2 (n : Nat) : Nat → (List DRecord) → Int → (List DRecord) → Int → Option (List DRecord)
  | 0, _, _, _, _ => none
  | k + 1, x0, x1, x5, x6 =>
  (bif (decide (x6 < (x0.length : Int))) then (some (decide (x6 < x1))) else some false).bind fun g1 =>
  bif g1 then (idxK x0 x6 fun e2 => appK x5.length ([e2] : List DRecord).length 88 (j3 n (l2 n k) x0 x1 (x5 ++ ([e2] : List DRecord)) x6))
  else (j1 n x5)
theorem wb2 (n : Nat) (Kr2 : Q) (x0 : List DRecord) (x1 : Int) (x5 : List DRecord) (x6 : Int) (K1 : Q) (X3 : XC) : ev (db2 n X3) (keepSt (Z1 x0 x1 x5 x6) [0, 1, 5, 6]) (E [(0, K1)]) Kr2 =
  ((bif (decide (x6 < (x0.length : Int))) then (some (decide (x6 < x1))) else some false).bind fun g1 =>
  bif g1 then (idxK x0 x6 fun e2 => appK x5.length ([e2] : List DRecord).length 88 (ev X3 (Z1 x0 x1 ((x5 ++ ([e2] : List DRecord)) : List DRecord) x6) (E [(0, K1)]) (Kb2 Kr2)))
  else (K1 (Z0 x5)) : Option R) := by kernel_rfl
theorem l2_ok (n : Nat) (k : Nat) : ∀ (x0 : List DRecord) (x1 : Int) (x5 : List DRecord) (x6 : Int), loopEv [0, 1, 5, 6] (fun s K => ev (cb2 n) s (E [(0, (K1 n))]) K) k (Z1 x0 x1 x5 x6) = l2 n k x0 x1 x5 x6 := by
  induction k with
  | zero => intros; rfl
  | succ k ih =>
    intro x0 x1 x5 x6
    exact (wb2 n (fun st => loopEv [0, 1, 5, 6] (fun s K => ev (cb2 n) s (E [(0, (K1 n))]) K) k st) x0 x1 x5 x6 (K1 n) (c3 n)).trans (by simp -implicitDefEqProofs only [l2, s3 n (fun st => loopEv [0, 1, 5, 6] (fun s K => ev (cb2 n) s (E [(0, (K1 n))]) K) k st) (l2 n k) ih, q1_0 n] <;> kernel_rfl)
noncomputable def d (n : Nat) (X1 Y2 : XC) : XC :=
  (.seq (.reg (.op (.mv 4 (.c ⟨.nil 0, ()⟩)) none <| .nil)) <|
  (.seq (.reg (.op (.mv 5 (.c ⟨.nil 0, ()⟩)) none <| .nil)) <|
  (.seq (.aft (.seq (.reg (.op (.mv 6 (.c ⟨.int .i64, ((0 : Int) : Int)⟩)) none <| .nil)) <|
  (.block 0 (.pre [.coe 5 (.slX .N TRecord), .keep [0, 1, 5, 6]] (.loop n [0, 1, 5, 6] Y2)))) [.keep [5]]) X1)))
noncomputable abbrev c (n : Nat) : XC := d n (c1 n) (cb2 n)
noncomputable def f (n : Nat) (a0 : List DRecord) (a1 : Int) : Option (List DRecord) :=
  l2 n n a0 a1 ([] : List DRecord) (0 : Int)
theorem w (n : Nat) (a0 : List DRecord) (a1 : Int) (X1 Y2 : XC) : evFn (d n X1 Y2) rs ps r (a0, a1, ()) =
  (loopEv [0, 1, 5, 6] (fun s K => ev Y2 s (E [(0, (H1 n X1))]) K) n (Z1 a0 a1 (([] : List DRecord) : List DRecord) (0 : Int)) : Option R) := by kernel_rfl
theorem ok (n : Nat) (a0 : List DRecord) (a1 : Int) : evFn (c n) rs ps r (a0, a1, ()) = f n a0 a1 := (w n a0 a1 (c1 n) (cb2 n)).trans (by simp -implicitDefEqProofs only [f, l2_ok n] <;> kernel_rfl)
noncomputable def sp (n : Nat) : FSpec := { f := 24, ps := ps, r := r, run := fun x => f n x.1 x.2.1 }
theorem calls (n : Nat) : (c n).calls = [] := by kernel_rfl
theorem fits (n : Nat) : fnB tab hd Try.f24 (c n) rs (sp n).ps (sp n).r = true := by kernel_rfl
theorem sound (n : Nat) : Sound Try.prog (sp n) := by
  refine fnB_sound tabOk eqFacts mixed (fn := Try.f24) (c := c n) (rs := rs) (by kernel_rfl) ?_ (fits n) ?_
  · rw [calls]
    intro s hs; cases hs
  · rintro ⟨a0, a1, ⟨⟩⟩ y h
    exact (ok n a0 a1).trans h
theorem meets (n : Nat) : Meets Try.prog (sp n) := (sound n).meets
end r08_Cut
/-! backwater/backwaterref08.Drop -/
namespace r08_Drop
abbrev ps : List (Ty × Bool) := [(.slB .U false TRecord, false), (.int .i64, false)]
abbrev r : Ty := .slX .N TRecord
abbrev rs : List RV := [.t 4]
abbrev R : Type := (rtOf ps r).den
abbrev Q : Type := St → Option R
abbrev E (l : List (Nat × Q)) : Ks R := ⟨retK rs ps r, l⟩
abbrev Z0 (x5 : Ty.den (.slX .N TRecord)) : St := [(5, some ⟨.slX .N TRecord, x5⟩)]
abbrev Z1 (x0 : Ty.den (.slB .U false TRecord)) (x1 : Ty.den (.int .i64)) (x5 : Ty.den (.slX .N TRecord)) (x6 : Ty.den (.int .i64)) : St := [(0, some ⟨.slB .U false TRecord, x0⟩), (1, some ⟨.int .i64, x1⟩), (5, some ⟨.slX .N TRecord, x5⟩), (6, some ⟨.int .i64, x6⟩)]
noncomputable def d1 (n : Nat) : XC :=
  (.seq (.reg (.op (.take 23 5) none <| .op (.take 4 23) none <| .nil)) <|
  .ret)
noncomputable abbrev c1 (n : Nat) : XC := d1 n
noncomputable def j1 (n : Nat) (x5 : List DRecord) : Option (List DRecord) :=
  some x5
theorem s1 (n : Nat) (x5 : List DRecord) : ev (c1 n) (Z0 x5) (E []) (retK rs ps r) = j1 n x5 := by kernel_rfl
noncomputable def H1 (n : Nat) (X : XC) : Q := fun st => ghK [.keep [5]] st fun st => ev X st (E []) (retK rs ps r)
noncomputable abbrev K1 (n : Nat) : Q := H1 n (c1 n)
noncomputable def Kb2 (Kr2 : Q) : Q := fun st => ghK [.keep [0, 1, 5, 6]] st Kr2
noncomputable def d3 (n : Nat) : XC :=
  (.aft (.reg (.op (.mv 11 (.t 6)) none <| .op (.bin 12 .add (.t 11) (.c ⟨.int .i64, ((1 : Int) : Int)⟩)) none <| .op (.mv 6 (.t 12)) none <| .nil)) [.keep [0, 1, 5, 6]])
noncomputable abbrev c3 (n : Nat) : XC := d3 n
theorem qb2_0 (Kr2 : Q) (kr2 : (List DRecord) → Int → (List DRecord) → Int → Option (List DRecord)) (hK2 : ∀ (x0 : List DRecord) (x1 : Int) (x5 : List DRecord) (x6 : Int), Kr2 (Z1 x0 x1 x5 x6) = kr2 x0 x1 x5 x6) (x0 : List DRecord) (x1 : Int) (x5 : List DRecord) (x6 : Int) : Kb2 Kr2 (Z1 x0 x1 x5 x6) = kr2 x0 x1 x5 x6 := (by kernel_rfl : _ = Kr2 (Z1 x0 x1 x5 x6)).trans (hK2 x0 x1 x5 x6)
noncomputable def j3 (n : Nat) (kr2 : (List DRecord) → Int → (List DRecord) → Int → Option (List DRecord)) (x0 : List DRecord) (x1 : Int) (x5 : List DRecord) (x6 : Int) : Option (List DRecord) :=
  kr2 x0 x1 x5 (IntKind.i64.wrap (x6 + (1 : Int)))
theorem w3 (n : Nat) (Kr2 : Q) (x0 : List DRecord) (x1 : Int) (x5 : List DRecord) (x6 : Int) (K1 : Q) (Kb2 : Q) : ev (d3 n) (Z1 x0 x1 x5 x6) (E [(0, K1)]) Kb2 =
  (Kb2 (Z1 x0 x1 x5 (IntKind.i64.wrap (x6 + (1 : Int)))) : Option R) := by kernel_rfl
theorem s3 (n : Nat) (Kr2 : Q) (kr2 : (List DRecord) → Int → (List DRecord) → Int → Option (List DRecord)) (hK2 : ∀ (x0 : List DRecord) (x1 : Int) (x5 : List DRecord) (x6 : Int), Kr2 (Z1 x0 x1 x5 x6) = kr2 x0 x1 x5 x6) (x0 : List DRecord) (x1 : Int) (x5 : List DRecord) (x6 : Int) : ev (c3 n) (Z1 x0 x1 x5 x6) (E [(0, (K1 n))]) (Kb2 Kr2) = j3 n kr2 x0 x1 x5 x6 := (w3 n Kr2 x0 x1 x5 x6 (K1 n) (Kb2 Kr2)).trans (by simp -implicitDefEqProofs only [j3, qb2_0 Kr2 kr2 hK2] <;> kernel_rfl)
noncomputable def H3 (n : Nat) (K1 : Q) (Kb2 : Q) (X : XC) : Q := fun st => ghK [.keep [0, 1, 5, 6]] st fun st => ev X st (E [(0, K1)]) Kb2
noncomputable abbrev K3 (n : Nat) (Kr2 : Q) : Q := H3 n (K1 n) (Kb2 Kr2) (c3 n)
noncomputable def db2 (n : Nat) (X3 : XC) : XC :=
  (.aft (.seq (.seq (.reg (.op (.mv 7 (.t 6)) none <| .op (.mv 8 (.t 0)) none <| .op (.len 9 (.t 8) false) none <| .op (.bin 10 .lss (.t 7) (.t 9)) none <| .nil)) <|
  (.cond (.t 10)
  .skip
  (.pre [.keep [5]] (.exit 0)))) <|
  (.seq (.aft (.block 1 (.seq (.reg (.op (.mv 13 (.t 6)) none <| .op (.mv 14 (.t 1)) none <| .op (.bin 15 .geq (.t 13) (.t 14)) none <| .nil)) <|
  (.cond (.t 15)
  (.reg (.op (.take 16 5) none <| .op (.mv 17 (.t 0)) none <| .op (.mv 18 (.t 6)) none <| .op (.idxA 19 (.t 17) (.t 18) 9 0) none <| .op (.ld 20 19 9 true) none <| .op (.bsl 21 TRecord [(.t 20)]) none <| .op (.app 22 16 (.t 21) 88 9) none <| .op (.take 5 22) none <| .nil))
  .skip))) [.keep [0, 1, 5, 6]]) X3)) [.keep [0, 1, 5, 6]])
noncomputable abbrev cb2 (n : Nat) : XC := db2 n (c3 n)
theorem q1_0_r (n : Nat) (X : XC) (x5 : List DRecord) : H1 n X (Z0 x5) = (ev X (Z0 x5) (E []) (retK rs ps r) : Option R) := by kernel_rfl
theorem q1_0 (n : Nat) (x5 : List DRecord) : K1 n (Z0 x5) = j1 n x5 := (q1_0_r n (c1 n) x5).trans (s1 n x5)
noncomputable def l2 (n : Nat) : Nat → (List DRecord) → Int → (List DRecord) → Int → Option (List DRecord)
  | 0, _, _, _, _ => none
  | k + 1, x0, x1, x5, x6 =>
  bif (decide (x6 < (x0.length : Int))) then (bif (decide (x1 ≤ x6)) then (idxK x0 x6 fun e1 => appK x5.length ([e1] : List DRecord).length 88 (j3 n (l2 n k) x0 x1 (x5 ++ ([e1] : List DRecord)) x6))
  else (j3 n (l2 n k) x0 x1 x5 x6))
  else (j1 n x5)
theorem wb2 (n : Nat) (Kr2 : Q) (x0 : List DRecord) (x1 : Int) (x5 : List DRecord) (x6 : Int) (K1 : Q) (X3 : XC) : ev (db2 n X3) (keepSt (Z1 x0 x1 x5 x6) [0, 1, 5, 6]) (E [(0, K1)]) Kr2 =
  (bif (decide (x6 < (x0.length : Int))) then (bif (decide (x1 ≤ x6)) then (idxK x0 x6 fun e1 => appK x5.length ([e1] : List DRecord).length 88 (ev X3 (Z1 x0 x1 ((x5 ++ ([e1] : List DRecord)) : List DRecord) x6) (E [(0, K1)]) (Kb2 Kr2)))
  else (ev X3 (Z1 x0 x1 x5 x6) (E [(0, K1)]) (Kb2 Kr2)))
  else (K1 (Z0 x5)) : Option R) := by kernel_rfl
theorem l2_ok (n : Nat) (k : Nat) : ∀ (x0 : List DRecord) (x1 : Int) (x5 : List DRecord) (x6 : Int), loopEv [0, 1, 5, 6] (fun s K => ev (cb2 n) s (E [(0, (K1 n))]) K) k (Z1 x0 x1 x5 x6) = l2 n k x0 x1 x5 x6 := by
  induction k with
  | zero => intros; rfl
  | succ k ih =>
    intro x0 x1 x5 x6
    exact (wb2 n (fun st => loopEv [0, 1, 5, 6] (fun s K => ev (cb2 n) s (E [(0, (K1 n))]) K) k st) x0 x1 x5 x6 (K1 n) (c3 n)).trans (by simp -implicitDefEqProofs only [l2, s3 n (fun st => loopEv [0, 1, 5, 6] (fun s K => ev (cb2 n) s (E [(0, (K1 n))]) K) k st) (l2 n k) ih, q1_0 n] <;> kernel_rfl)
noncomputable def d (n : Nat) (X1 Y2 : XC) : XC :=
  (.seq (.reg (.op (.mv 4 (.c ⟨.nil 0, ()⟩)) none <| .nil)) <|
  (.seq (.reg (.op (.mv 5 (.c ⟨.nil 0, ()⟩)) none <| .nil)) <|
  (.seq (.aft (.seq (.reg (.op (.mv 6 (.c ⟨.int .i64, ((0 : Int) : Int)⟩)) none <| .nil)) <|
  (.block 0 (.pre [.coe 5 (.slX .N TRecord), .keep [0, 1, 5, 6]] (.loop n [0, 1, 5, 6] Y2)))) [.keep [5]]) X1)))
noncomputable abbrev c (n : Nat) : XC := d n (c1 n) (cb2 n)
noncomputable def f (n : Nat) (a0 : List DRecord) (a1 : Int) : Option (List DRecord) :=
  l2 n n a0 a1 ([] : List DRecord) (0 : Int)
theorem w (n : Nat) (a0 : List DRecord) (a1 : Int) (X1 Y2 : XC) : evFn (d n X1 Y2) rs ps r (a0, a1, ()) =
  (loopEv [0, 1, 5, 6] (fun s K => ev Y2 s (E [(0, (H1 n X1))]) K) n (Z1 a0 a1 (([] : List DRecord) : List DRecord) (0 : Int)) : Option R) := by kernel_rfl
theorem ok (n : Nat) (a0 : List DRecord) (a1 : Int) : evFn (c n) rs ps r (a0, a1, ()) = f n a0 a1 := (w n a0 a1 (c1 n) (cb2 n)).trans (by simp -implicitDefEqProofs only [f, l2_ok n] <;> kernel_rfl)
noncomputable def sp (n : Nat) : FSpec := { f := 25, ps := ps, r := r, run := fun x => f n x.1 x.2.1 }
theorem calls (n : Nat) : (c n).calls = [] := by kernel_rfl
theorem fits (n : Nat) : fnB tab hd Try.f25 (c n) rs (sp n).ps (sp n).r = true := by kernel_rfl
theorem sound (n : Nat) : Sound Try.prog (sp n) := by
  refine fnB_sound tabOk eqFacts mixed (fn := Try.f25) (c := c n) (rs := rs) (by kernel_rfl) ?_ (fits n) ?_
  · rw [calls]
    intro s hs; cases hs
  · rintro ⟨a0, a1, ⟨⟩⟩ y h
    exact (ok n a0 a1).trans h
theorem meets (n : Nat) : Meets Try.prog (sp n) := (sound n).meets
end r08_Drop
/-! backwater/cml.Ops -/
namespace cml_Ops
abbrev ps : List (Ty × Bool) := [(.slB .U false TRecord, false)]
abbrev r : Ty := .slX .S TOp
abbrev rs : List RV := [.t 2]
abbrev R : Type := (rtOf ps r).den
abbrev Q : Type := St → Option R
abbrev E (l : List (Nat × Q)) : Ks R := ⟨retK rs ps r, l⟩
abbrev Z0 (x3 : Ty.den (.slX .S TOp)) : St := [(3, some ⟨.slX .S TOp, x3⟩)]
abbrev Z1 (x3 : Ty.den (.slX .S TOp)) (x9 : Ty.den (.slB .U false TRecord)) (x10 : Ty.den (.int .i64)) (x11 : Ty.den (.int .i64)) : St := [(3, some ⟨.slX .S TOp, x3⟩), (9, some ⟨.slB .U false TRecord, x9⟩), (10, some ⟨.int .i64, x10⟩), (11, some ⟨.int .i64, x11⟩)]
noncomputable def d1 (n : Nat) : XC :=
  (.seq (.reg (.op (.take 21 3) none <| .op (.take 2 21) none <| .nil)) <|
  .ret)
noncomputable abbrev c1 (n : Nat) : XC := d1 n
noncomputable def j1 (n : Nat) (x3 : List DOp) : Option (List DOp) :=
  some x3
theorem s1 (n : Nat) (x3 : List DOp) : ev (c1 n) (Z0 x3) (E []) (retK rs ps r) = j1 n x3 := by kernel_rfl
noncomputable def H1 (n : Nat) (X : XC) : Q := fun st => ghK [.keep [3]] st fun st => ev X st (E []) (retK rs ps r)
noncomputable abbrev K1 (n : Nat) : Q := H1 n (c1 n)
noncomputable def Kb2 (Kr2 : Q) : Q := fun st => ghK [.keep [3, 9, 10, 11]] st Kr2
noncomputable def d3 (n : Nat) : XC :=
  (.aft (.reg (.op (.bin 20 .add (.t 11) (.c ⟨.int .i64, ((1 : Int) : Int)⟩)) none <| .op (.mv 11 (.t 20)) none <| .nil)) [.keep [3, 9, 10, 11]])
noncomputable abbrev c3 (n : Nat) : XC := d3 n
theorem qb2_0 (Kr2 : Q) (kr2 : (List DOp) → (List DRecord) → Int → Int → Option (List DOp)) (hK2 : ∀ (x3 : List DOp) (x9 : List DRecord) (x10 : Int) (x11 : Int), Kr2 (Z1 x3 x9 x10 x11) = kr2 x3 x9 x10 x11) (x3 : List DOp) (x9 : List DRecord) (x10 : Int) (x11 : Int) : Kb2 Kr2 (Z1 x3 x9 x10 x11) = kr2 x3 x9 x10 x11 := (by kernel_rfl : _ = Kr2 (Z1 x3 x9 x10 x11)).trans (hK2 x3 x9 x10 x11)
noncomputable def j3 (n : Nat) (kr2 : (List DOp) → (List DRecord) → Int → Int → Option (List DOp)) (x3 : List DOp) (x9 : List DRecord) (x10 : Int) (x11 : Int) : Option (List DOp) :=
  kr2 x3 x9 x10 (IntKind.i64.wrap (x11 + (1 : Int)))
theorem w3 (n : Nat) (Kr2 : Q) (x3 : List DOp) (x9 : List DRecord) (x10 : Int) (x11 : Int) (K1 : Q) (Kb2 : Q) : ev (d3 n) (Z1 x3 x9 x10 x11) (E [(0, K1)]) Kb2 =
  (Kb2 (Z1 x3 x9 x10 (IntKind.i64.wrap (x11 + (1 : Int)))) : Option R) := by kernel_rfl
theorem s3 (n : Nat) (Kr2 : Q) (kr2 : (List DOp) → (List DRecord) → Int → Int → Option (List DOp)) (hK2 : ∀ (x3 : List DOp) (x9 : List DRecord) (x10 : Int) (x11 : Int), Kr2 (Z1 x3 x9 x10 x11) = kr2 x3 x9 x10 x11) (x3 : List DOp) (x9 : List DRecord) (x10 : Int) (x11 : Int) : ev (c3 n) (Z1 x3 x9 x10 x11) (E [(0, (K1 n))]) (Kb2 Kr2) = j3 n kr2 x3 x9 x10 x11 := (w3 n Kr2 x3 x9 x10 x11 (K1 n) (Kb2 Kr2)).trans (by simp -implicitDefEqProofs only [j3, qb2_0 Kr2 kr2 hK2] <;> kernel_rfl)
noncomputable def H3 (n : Nat) (K1 : Q) (Kb2 : Q) (X : XC) : Q := fun st => ghK [.keep [3, 9, 10, 11]] st fun st => ev X st (E [(0, K1)]) Kb2
noncomputable abbrev K3 (n : Nat) (Kr2 : Q) : Q := H3 n (K1 n) (Kb2 Kr2) (c3 n)
noncomputable def db2 (n : Nat) (X3 : XC) : XC :=
  (.aft (.seq (.reg (.op (.bin 12 .lss (.t 11) (.t 10)) none <| .nil)) <|
  (.seq (.cond (.t 12)
  .skip
  (.pre [.keep [3]] (.exit 0))) <|
  (.seq (.aft (.block 1 (.seq (.reg (.op (.idxA 13 (.t 9) (.t 11) 9 0) none <| .op (.ld 14 13 9 true) none <| .op (.alloc 5 ⟨TRecord, ((((0 : Int), (0 : Int), (0 : Int), ([] : List Int), (0 : Int), ([] : List Int), (0 : Int), ([] : List Int), ()), (0 : Int), ()) : DRecord)⟩) none <| .op (.st 5 (.t 14) 9) none <| .nil)) <|
  (.reg (.op (.take 15 3) none <| .op (.fa 16 5 0 0) none <| .op (.ld 17 16 8 true) none <| .op (.bsl 18 TOp [(.t 17)]) none <| .op (.app 19 15 (.t 18) 80 8) none <| .op (.take 3 19) none <| .nil)))) [.keep [3, 9, 10, 11]]) X3))) [.keep [3, 9, 10, 11]])
noncomputable abbrev cb2 (n : Nat) : XC := db2 n (c3 n)
theorem q1_0_r (n : Nat) (X : XC) (x3 : List DOp) : H1 n X (Z0 x3) = (ev X (Z0 x3) (E []) (retK rs ps r) : Option R) := by kernel_rfl
theorem q1_0 (n : Nat) (x3 : List DOp) : K1 n (Z0 x3) = j1 n x3 := (q1_0_r n (c1 n) x3).trans (s1 n x3)
noncomputable def l2 (n : Nat) : Nat → (List DOp) → (List DRecord) → Int → Int → Option (List DOp)
  | 0, _, _, _, _ => none
  | k + 1, x3, x9, x10, x11 =>
  bif (decide (x11 < x10)) then (idxK x9 x11 fun e1 => appK x3.length ([e1.1] : List DOp).length 80 (j3 n (l2 n k) (x3 ++ ([e1.1] : List DOp)) x9 x10 x11))
  else (j1 n x3)
theorem wb2 (n : Nat) (Kr2 : Q) (x3 : List DOp) (x9 : List DRecord) (x10 : Int) (x11 : Int) (K1 : Q) (X3 : XC) : ev (db2 n X3) (keepSt (Z1 x3 x9 x10 x11) [3, 9, 10, 11]) (E [(0, K1)]) Kr2 =
  (bif (decide (x11 < x10)) then (idxK x9 x11 fun e1 => appK x3.length ([e1.1] : List DOp).length 80 (ev X3 (Z1 ((x3 ++ ([e1.1] : List DOp)) : List DOp) x9 x10 x11) (E [(0, K1)]) (Kb2 Kr2)))
  else (K1 (Z0 x3)) : Option R) := by kernel_rfl
theorem l2_ok (n : Nat) (k : Nat) : ∀ (x3 : List DOp) (x9 : List DRecord) (x10 : Int) (x11 : Int), loopEv [3, 9, 10, 11] (fun s K => ev (cb2 n) s (E [(0, (K1 n))]) K) k (Z1 x3 x9 x10 x11) = l2 n k x3 x9 x10 x11 := by
  induction k with
  | zero => intros; rfl
  | succ k ih =>
    intro x3 x9 x10 x11
    exact (wb2 n (fun st => loopEv [3, 9, 10, 11] (fun s K => ev (cb2 n) s (E [(0, (K1 n))]) K) k st) x3 x9 x10 x11 (K1 n) (c3 n)).trans (by simp -implicitDefEqProofs only [l2, s3 n (fun st => loopEv [3, 9, 10, 11] (fun s K => ev (cb2 n) s (E [(0, (K1 n))]) K) k st) (l2 n k) ih, q1_0 n] <;> kernel_rfl)
noncomputable def d (n : Nat) (X1 Y2 : XC) : XC :=
  (.seq (.reg (.op (.mv 2 (.c ⟨.nil 0, ()⟩)) none <| .nil)) <|
  (.seq (.reg (.op (.mv 6 (.t 0)) none <| .op (.len 7 (.t 6) false) none <| .op (.mk 8 ⟨TOp, (((0 : Int), (0 : Int), (0 : Int), ([] : List Int), (0 : Int), ([] : List Int), (0 : Int), ([] : List Int), ()) : DOp)⟩ (.c ⟨.int .i64, ((0 : Int) : Int)⟩) (.t 7) 80) none <| .op (.take 3 8) none <| .nil)) <|
  (.seq (.aft (.seq (.reg (.op (.mv 9 (.t 0)) none <| .op (.len 10 (.t 9) false) none <| .op (.mv 11 (.c ⟨.int .i64, ((0 : Int) : Int)⟩)) none <| .nil)) <|
  (.block 0 (.pre [.keep [3, 9, 10, 11]] (.loop n [3, 9, 10, 11] Y2)))) [.keep [3]]) X1)))
noncomputable abbrev c (n : Nat) : XC := d n (c1 n) (cb2 n)
noncomputable def f (n : Nat) (a0 : List DRecord) : Option (List DOp) :=
  mkK (0 : Int) (a0.length : Int) 80 (l2 n n (List.replicate ((0 : Int)).toNat ((0 : Int), (0 : Int), (0 : Int), ([] : List Int), (0 : Int), ([] : List Int), (0 : Int), ([] : List Int), ())) a0 (a0.length : Int) (0 : Int))
theorem w (n : Nat) (a0 : List DRecord) (X1 Y2 : XC) : evFn (d n X1 Y2) rs ps r (a0, ()) =
  (mkK (0 : Int) (a0.length : Int) 80 (loopEv [3, 9, 10, 11] (fun s K => ev Y2 s (E [(0, (H1 n X1))]) K) n (Z1 ((List.replicate ((0 : Int)).toNat ((0 : Int), (0 : Int), (0 : Int), ([] : List Int), (0 : Int), ([] : List Int), (0 : Int), ([] : List Int), ())) : List DOp) a0 (a0.length : Int) (0 : Int))) : Option R) := by kernel_rfl
theorem ok (n : Nat) (a0 : List DRecord) : evFn (c n) rs ps r (a0, ()) = f n a0 := (w n a0 (c1 n) (cb2 n)).trans (by simp -implicitDefEqProofs only [f, l2_ok n] <;> kernel_rfl)
noncomputable def sp (n : Nat) : FSpec := { f := 21, ps := ps, r := r, run := fun x => f n x.1 }
theorem calls (n : Nat) : (c n).calls = [] := by kernel_rfl
theorem fits (n : Nat) : fnB tab hd Try.f21 (c n) rs (sp n).ps (sp n).r = true := by kernel_rfl
theorem sound (n : Nat) : Sound Try.prog (sp n) := by
  refine fnB_sound tabOk eqFacts mixed (fn := Try.f21) (c := c n) (rs := rs) (by kernel_rfl) ?_ (fits n) ?_
  · rw [calls]
    intro s hs; cases hs
  · rintro ⟨a0, ⟨⟩⟩ y h
    exact (ok n a0).trans h
theorem meets (n : Nat) : Meets Try.prog (sp n) := (sound n).meets
end cml_Ops
/-! backwater/backwaterlaw08.CmlCuts -/
namespace law08_CmlCuts
abbrev ps : List (Ty × Bool) := [(.slB .U false TRecord, false), (.int .i64, false), (.int .u32, false)]
abbrev r : Ty := .bool
abbrev rs : List RV := [.t 6]
abbrev R : Type := (rtOf ps r).den
abbrev Q : Type := St → Option R
abbrev E (l : List (Nat × Q)) : Ks R := ⟨retK rs ps r, l⟩
abbrev Z0 (x0 : Ty.den (.slB .U false TRecord)) (x7 : Ty.den (.slX .U TRecord)) (x8 : Ty.den (.slX .U TRecord)) (x10 : Ty.den (.slX .S TOp)) : St := [(0, some ⟨.slB .U false TRecord, x0⟩), (7, some ⟨.slX .U TRecord, x7⟩), (8, some ⟨.slX .U TRecord, x8⟩), (10, some ⟨.slX .S TOp, x10⟩)]
abbrev Z1 (x0 : Ty.den (.slB .U false TRecord)) (x7 : Ty.den (.slX .U TRecord)) (x8 : Ty.den (.slX .U TRecord)) (x10 : Ty.den (.slX .S TOp)) (x11 : Ty.den (.int .i64)) : St := [(0, some ⟨.slB .U false TRecord, x0⟩), (7, some ⟨.slX .U TRecord, x7⟩), (8, some ⟨.slX .U TRecord, x8⟩), (10, some ⟨.slX .S TOp, x10⟩), (11, some ⟨.int .i64, x11⟩)]
abbrev Z2 (x0 : Ty.den (.slB .U false TRecord)) (x7 : Ty.den (.slX .U TRecord)) (x8 : Ty.den (.slX .U TRecord)) : St := [(0, some ⟨.slB .U false TRecord, x0⟩), (7, some ⟨.slX .U TRecord, x7⟩), (8, some ⟨.slX .U TRecord, x8⟩)]
abbrev Z3 (x0 : Ty.den (.slB .U false TRecord)) (x2 : Ty.den (.int .u32)) (x7 : Ty.den (.slX .U TRecord)) (x8 : Ty.den (.slX .U TRecord)) (x9 : Ty.den (.int .i64)) : St := [(0, some ⟨.slB .U false TRecord, x0⟩), (2, some ⟨.int .u32, x2⟩), (7, some ⟨.slX .U TRecord, x7⟩), (8, some ⟨.slX .U TRecord, x8⟩), (9, some ⟨.int .i64, x9⟩)]
noncomputable def d2 (n : Nat) : XC :=
  (.seq (.reg (.op (.call (some 77) (law08_live.sp n) []) none <| .op (.mv 78 (.t 77)) none <| .grp 78 true (.op (.bor 79 10) (some ([10, 78, 79], [79])) <| .op (.len 80 (.t 79) false) (some ([10, 78, 79, 80], [80])) <| .op (.mv 81 (.t 0)) (some ([0, 78, 81], [81])) <| .op (.len 82 (.t 81) false) (some ([78, 81, 82], [82])) <| .op (.bin 83 .eql (.t 80) (.t 82)) (some ([78, 80, 82, 83], [83])) <| .nil) 83 84 [79, 80, 81, 82, 83] <| .op (.mv 85 (.t 84)) none <| .grp 85 true (.op (.bsl 86 TRecord []) (some ([85, 86], [86])) <| .op (.bor 87 7) (some ([7, 85, 87], [87])) <| .op (.app 88 86 (.t 87) 88 9) (some ([7, 85, 86, 87, 88], [86, 88])) <| .op (.bor 89 8) (some ([8, 85, 89], [89])) <| .op (.app 90 88 (.t 89) 88 9) (some ([8, 85, 88, 89, 90], [88, 90])) <| .op (.mv 91 (.t 0)) (some ([0, 85, 91], [91])) <| .op (.call (some 92) (cml_Same.sp n) [.v (.t 90), .v (.t 91)]) (some ([85, 90, 91, 92], [92])) <| .nil) 92 93 [86, 87, 88, 89, 90, 91, 92] <| .op (.mv 6 (.t 93)) none <| .nil)) <|
  .ret)
noncomputable abbrev c2 (n : Nat) : XC := d2 n
noncomputable def j2 (n : Nat) (x0 : List DRecord) (x7 : List DRecord) (x8 : List DRecord) (x10 : List DOp) : Option Bool :=
  (law08_live.f n).bind fun r1 => (bif r1 then (some (decide ((x10.length : Int) = (x0.length : Int)))) else some false).bind fun g2 =>
  (bif g2 then (appK ([] : List DRecord).length x7.length 88 (appK (([] : List DRecord) ++ x7).length x8.length 88 ((cml_Same.f n ((([] : List DRecord) ++ x7) ++ x8) x0).bind fun r4 => some r4))) else some false).bind fun g3 =>
  some g3
theorem s2 (n : Nat) (x0 : List DRecord) (x7 : List DRecord) (x8 : List DRecord) (x10 : List DOp) : ev (c2 n) (Z0 x0 x7 x8 x10) (E []) (retK rs ps r) = j2 n x0 x7 x8 x10 := by kernel_rfl
noncomputable def H2 (n : Nat) (X : XC) : Q := fun st => ghK [.keep [0, 7, 8, 10]] st fun st => ev X st (E []) (retK rs ps r)
noncomputable abbrev K2 (n : Nat) : Q := H2 n (c2 n)
noncomputable def Kb3 (Kr3 : Q) : Q := fun st => ghK [.keep [0, 7, 8, 10, 11]] st Kr3
noncomputable def d4 (n : Nat) : XC :=
  (.aft (.reg (.op (.mv 59 (.t 11)) none <| .op (.bin 60 .add (.t 59) (.c ⟨.int .i64, ((1 : Int) : Int)⟩)) none <| .op (.mv 11 (.t 60)) none <| .nil)) [.keep [0, 7, 8, 10, 11]])
noncomputable abbrev c4 (n : Nat) : XC := d4 n
theorem qb3_0 (Kr3 : Q) (kr3 : (List DRecord) → (List DRecord) → (List DRecord) → (List DOp) → Int → Option Bool) (hK3 : ∀ (x0 : List DRecord) (x7 : List DRecord) (x8 : List DRecord) (x10 : List DOp) (x11 : Int), Kr3 (Z1 x0 x7 x8 x10 x11) = kr3 x0 x7 x8 x10 x11) (x0 : List DRecord) (x7 : List DRecord) (x8 : List DRecord) (x10 : List DOp) (x11 : Int) : Kb3 Kr3 (Z1 x0 x7 x8 x10 x11) = kr3 x0 x7 x8 x10 x11 := (by kernel_rfl : _ = Kr3 (Z1 x0 x7 x8 x10 x11)).trans (hK3 x0 x7 x8 x10 x11)
noncomputable def j4 (n : Nat) (kr3 : (List DRecord) → (List DRecord) → (List DRecord) → (List DOp) → Int → Option Bool) (x0 : List DRecord) (x7 : List DRecord) (x8 : List DRecord) (x10 : List DOp) (x11 : Int) : Option Bool :=
  kr3 x0 x7 x8 x10 (IntKind.i64.wrap (x11 + (1 : Int)))
theorem w4 (n : Nat) (Kr3 : Q) (x0 : List DRecord) (x7 : List DRecord) (x8 : List DRecord) (x10 : List DOp) (x11 : Int) (K2 : Q) (Kb3 : Q) : ev (d4 n) (Z1 x0 x7 x8 x10 x11) (E [(2, K2)]) Kb3 =
  (Kb3 (Z1 x0 x7 x8 x10 (IntKind.i64.wrap (x11 + (1 : Int)))) : Option R) := by kernel_rfl
theorem s4 (n : Nat) (Kr3 : Q) (kr3 : (List DRecord) → (List DRecord) → (List DRecord) → (List DOp) → Int → Option Bool) (hK3 : ∀ (x0 : List DRecord) (x7 : List DRecord) (x8 : List DRecord) (x10 : List DOp) (x11 : Int), Kr3 (Z1 x0 x7 x8 x10 x11) = kr3 x0 x7 x8 x10 x11) (x0 : List DRecord) (x7 : List DRecord) (x8 : List DRecord) (x10 : List DOp) (x11 : Int) : ev (c4 n) (Z1 x0 x7 x8 x10 x11) (E [(2, (K2 n))]) (Kb3 Kr3) = j4 n kr3 x0 x7 x8 x10 x11 := (w4 n Kr3 x0 x7 x8 x10 x11 (K2 n) (Kb3 Kr3)).trans (by simp -implicitDefEqProofs only [j4, qb3_0 Kr3 kr3 hK3] <;> kernel_rfl)
noncomputable def H4 (n : Nat) (K2 : Q) (Kb3 : Q) (X : XC) : Q := fun st => ghK [.keep [0, 7, 8, 10, 11]] st fun st => ev X st (E [(2, K2)]) Kb3
noncomputable abbrev K4 (n : Nat) (Kr3 : Q) : Q := H4 n (K2 n) (Kb3 Kr3) (c4 n)
noncomputable def db3 (n : Nat) (X4 : XC) : XC :=
  (.aft (.seq (.seq (.reg (.op (.mv 55 (.t 11)) none <| .op (.mv 56 (.t 0)) none <| .op (.len 57 (.t 56) false) none <| .op (.bin 58 .lss (.t 55) (.t 57)) none <| .nil)) <|
  (.cond (.t 58)
  .skip
  (.pre [.keep [0, 7, 8, 10]] (.exit 2)))) <|
  (.seq (.aft (.block 3 (.seq (.regD (.op (.mv 61 (.t 11)) (some ([11, 61], [61])) <| .op (.bor 62 10) (some ([10, 62], [62])) <| .op (.len 63 (.t 62) false) (some ([10, 62, 63], [63])) <| .op (.bin 64 .geq (.t 61) (.t 63)) (some ([61, 63, 64], [64])) <| .op (.mv 65 (.t 64)) (some ([64, 65], [65])) <| .grp 65 false (.op (.bor 66 10) (some ([10, 65, 66], [66])) <| .op (.mv 67 (.t 11)) (some ([11, 65, 67], [67])) <| .op (.idxA 68 (.t 66) (.t 67) 8 0) (some ([10, 65, 66, 67, 68], [68])) <| .op (.ld 69 68 8 true) (some ([10, 65, 68, 69], [69])) <| .op (.mv 70 (.t 0)) (some ([0, 65, 70], [70])) <| .op (.mv 71 (.t 11)) (some ([11, 65, 71], [71])) <| .op (.idxA 72 (.t 70) (.t 71) 9 0) (some ([65, 70, 71, 72], [72])) <| .op (.fa 73 72 0 0) (some ([65, 72, 73], [73])) <| .op (.ld 74 73 8 true) (some ([65, 73, 74], [74])) <| .op (.eqs 75 true (.t 69) (.t 74) TOp) (some ([65, 69, 74, 75], [75])) <| .nil) 75 76 [66, 67, 68, 69, 70, 71, 72, 73, 74, 75] <| .nil)) <|
  (.cond (.t 76)
  (.seq (.pre [.keep []] (.reg (.op (.mv 6 (.c ⟨.bool, (false : Bool)⟩)) none <| .nil))) <|
  .ret)
  .skip))) [.keep [0, 7, 8, 10, 11]]) X4)) [.keep [0, 7, 8, 10, 11]])
noncomputable abbrev cb3 (n : Nat) : XC := db3 n (c4 n)
theorem q2_0_r (n : Nat) (X : XC) (x0 : List DRecord) (x7 : List DRecord) (x8 : List DRecord) (x10 : List DOp) : H2 n X (Z0 x0 x7 x8 x10) = (ev X (Z0 x0 x7 x8 x10) (E []) (retK rs ps r) : Option R) := by kernel_rfl
theorem q2_0 (n : Nat) (x0 : List DRecord) (x7 : List DRecord) (x8 : List DRecord) (x10 : List DOp) : K2 n (Z0 x0 x7 x8 x10) = j2 n x0 x7 x8 x10 := (q2_0_r n (c2 n) x0 x7 x8 x10).trans (s2 n x0 x7 x8 x10)
noncomputable def l3 (n : Nat) : Nat → (List DRecord) → (List DRecord) → (List DRecord) → (List DOp) → Int → Option Bool
  | 0, _, _, _, _, _ => none
  | k + 1, x0, x7, x8, x10, x11 =>
  bif (decide (x11 < (x0.length : Int))) then ((bif (decide ((x10.length : Int) ≤ x11)) then some true else (idxK x10 x11 fun e2 => idxK x0 x11 fun e3 => some (!(eqI e2.1 e3.1.1 && (eqI e2.2.1 e3.1.2.1 && (eqI e2.2.2.1 e3.1.2.2.1 && (eqS e2.2.2.2.1 e3.1.2.2.2.1 && (eqI e2.2.2.2.2.1 e3.1.2.2.2.2.1 && (eqS e2.2.2.2.2.2.1 e3.1.2.2.2.2.2.1 && (eqI e2.2.2.2.2.2.2.1 e3.1.2.2.2.2.2.2.1 && (eqS e2.2.2.2.2.2.2.2.1 e3.1.2.2.2.2.2.2.2.1 && true))))))))))).bind fun g1 =>
  bif g1 then (some false)
  else (j4 n (l3 n k) x0 x7 x8 x10 x11))
  else (j2 n x0 x7 x8 x10)
theorem wb3 (n : Nat) (Kr3 : Q) (x0 : List DRecord) (x7 : List DRecord) (x8 : List DRecord) (x10 : List DOp) (x11 : Int) (K2 : Q) (X4 : XC) : ev (db3 n X4) (keepSt (Z1 x0 x7 x8 x10 x11) [0, 7, 8, 10, 11]) (E [(2, K2)]) Kr3 =
  (bif (decide (x11 < (x0.length : Int))) then ((bif (decide ((x10.length : Int) ≤ x11)) then some true else (idxK x10 x11 fun e2 => idxK x0 x11 fun e3 => some (!(eqI e2.1 e3.1.1 && (eqI e2.2.1 e3.1.2.1 && (eqI e2.2.2.1 e3.1.2.2.1 && (eqS e2.2.2.2.1 e3.1.2.2.2.1 && (eqI e2.2.2.2.2.1 e3.1.2.2.2.2.1 && (eqS e2.2.2.2.2.2.1 e3.1.2.2.2.2.2.1 && (eqI e2.2.2.2.2.2.2.1 e3.1.2.2.2.2.2.2.1 && (eqS e2.2.2.2.2.2.2.2.1 e3.1.2.2.2.2.2.2.2.1 && true))))))))))).bind fun g1 =>
  bif g1 then (some false)
  else (ev X4 (Z1 x0 x7 x8 x10 x11) (E [(2, K2)]) (Kb3 Kr3)))
  else (K2 (Z0 x0 x7 x8 x10)) : Option R) := by kernel_rfl
theorem l3_ok (n : Nat) (k : Nat) : ∀ (x0 : List DRecord) (x7 : List DRecord) (x8 : List DRecord) (x10 : List DOp) (x11 : Int), loopEv [0, 7, 8, 10, 11] (fun s K => ev (cb3 n) s (E [(2, (K2 n))]) K) k (Z1 x0 x7 x8 x10 x11) = l3 n k x0 x7 x8 x10 x11 := by
  induction k with
  | zero => intros; rfl
  | succ k ih =>
    intro x0 x7 x8 x10 x11
    exact (wb3 n (fun st => loopEv [0, 7, 8, 10, 11] (fun s K => ev (cb3 n) s (E [(2, (K2 n))]) K) k st) x0 x7 x8 x10 x11 (K2 n) (c4 n)).trans (by simp -implicitDefEqProofs only [l3, s4 n (fun st => loopEv [0, 7, 8, 10, 11] (fun s K => ev (cb3 n) s (E [(2, (K2 n))]) K) k st) (l3 n k) ih, q2_0 n] <;> kernel_rfl)
noncomputable def d1 (n : Nat) (X2 Y3 : XC) : XC :=
  (.seq (.reg (.op (.mv 53 (.t 0)) none <| .op (.call (some 54) (cml_Ops.sp n) [.v (.t 53)]) none <| .op (.take 10 54) none <| .nil)) <|
  (.seq (.aft (.seq (.reg (.op (.mv 11 (.c ⟨.int .i64, ((0 : Int) : Int)⟩)) none <| .nil)) <|
  (.block 2 (.pre [.keep [0, 7, 8, 10, 11]] (.loop n [0, 7, 8, 10, 11] Y3)))) [.keep [0, 7, 8, 10]]) X2))
noncomputable abbrev c1 (n : Nat) : XC := d1 n (c2 n) (cb3 n)
noncomputable def j1 (n : Nat) (x0 : List DRecord) (x7 : List DRecord) (x8 : List DRecord) : Option Bool :=
  (cml_Ops.f n x0).bind fun r1 => l3 n n x0 x7 x8 r1 (0 : Int)
theorem w1 (n : Nat) (x0 : List DRecord) (x7 : List DRecord) (x8 : List DRecord) (X2 Y3 : XC) : ev (d1 n X2 Y3) (Z2 x0 x7 x8) (E []) (retK rs ps r) =
  ((cml_Ops.f n x0).bind fun r1 => loopEv [0, 7, 8, 10, 11] (fun s K => ev Y3 s (E [(2, (H2 n X2))]) K) n (Z1 x0 x7 x8 r1 (0 : Int)) : Option R) := by kernel_rfl
theorem s1 (n : Nat) (x0 : List DRecord) (x7 : List DRecord) (x8 : List DRecord) : ev (c1 n) (Z2 x0 x7 x8) (E []) (retK rs ps r) = j1 n x0 x7 x8 := (w1 n x0 x7 x8 (c2 n) (cb3 n)).trans (by simp -implicitDefEqProofs only [j1, l3_ok n] <;> kernel_rfl)
noncomputable def H1 (n : Nat) (X : XC) : Q := fun st => ghK [.keep [0, 7, 8]] st fun st => ev X st (E []) (retK rs ps r)
noncomputable abbrev K1 (n : Nat) : Q := H1 n (c1 n)
noncomputable def Kb5 (Kr5 : Q) : Q := fun st => ghK [.keep [0, 2, 7, 8, 9]] st Kr5
noncomputable def d6 (n : Nat) : XC :=
  (.aft (.reg (.op (.mv 38 (.t 9)) none <| .op (.bin 39 .add (.t 38) (.c ⟨.int .i64, ((1 : Int) : Int)⟩)) none <| .op (.mv 9 (.t 39)) none <| .nil)) [.keep [0, 2, 7, 8, 9]])
noncomputable abbrev c6 (n : Nat) : XC := d6 n
theorem qb5_0 (Kr5 : Q) (kr5 : (List DRecord) → Int → (List DRecord) → (List DRecord) → Int → Option Bool) (hK5 : ∀ (x0 : List DRecord) (x2 : Int) (x7 : List DRecord) (x8 : List DRecord) (x9 : Int), Kr5 (Z3 x0 x2 x7 x8 x9) = kr5 x0 x2 x7 x8 x9) (x0 : List DRecord) (x2 : Int) (x7 : List DRecord) (x8 : List DRecord) (x9 : Int) : Kb5 Kr5 (Z3 x0 x2 x7 x8 x9) = kr5 x0 x2 x7 x8 x9 := (by kernel_rfl : _ = Kr5 (Z3 x0 x2 x7 x8 x9)).trans (hK5 x0 x2 x7 x8 x9)
noncomputable def j6 (n : Nat) (kr5 : (List DRecord) → Int → (List DRecord) → (List DRecord) → Int → Option Bool) (x0 : List DRecord) (x2 : Int) (x7 : List DRecord) (x8 : List DRecord) (x9 : Int) : Option Bool :=
  kr5 x0 x2 x7 x8 (IntKind.i64.wrap (x9 + (1 : Int)))
theorem w6 (n : Nat) (Kr5 : Q) (x0 : List DRecord) (x2 : Int) (x7 : List DRecord) (x8 : List DRecord) (x9 : Int) (K1 : Q) (Kb5 : Q) : ev (d6 n) (Z3 x0 x2 x7 x8 x9) (E [(0, K1)]) Kb5 =
  (Kb5 (Z3 x0 x2 x7 x8 (IntKind.i64.wrap (x9 + (1 : Int)))) : Option R) := by kernel_rfl
theorem s6 (n : Nat) (Kr5 : Q) (kr5 : (List DRecord) → Int → (List DRecord) → (List DRecord) → Int → Option Bool) (hK5 : ∀ (x0 : List DRecord) (x2 : Int) (x7 : List DRecord) (x8 : List DRecord) (x9 : Int), Kr5 (Z3 x0 x2 x7 x8 x9) = kr5 x0 x2 x7 x8 x9) (x0 : List DRecord) (x2 : Int) (x7 : List DRecord) (x8 : List DRecord) (x9 : Int) : ev (c6 n) (Z3 x0 x2 x7 x8 x9) (E [(0, (K1 n))]) (Kb5 Kr5) = j6 n kr5 x0 x2 x7 x8 x9 := (w6 n Kr5 x0 x2 x7 x8 x9 (K1 n) (Kb5 Kr5)).trans (by simp -implicitDefEqProofs only [j6, qb5_0 Kr5 kr5 hK5] <;> kernel_rfl)
noncomputable def H6 (n : Nat) (K1 : Q) (Kb5 : Q) (X : XC) : Q := fun st => ghK [.keep [0, 2, 7, 8, 9]] st fun st => ev X st (E [(0, K1)]) Kb5
noncomputable abbrev K6 (n : Nat) (Kr5 : Q) : Q := H6 n (K1 n) (Kb5 Kr5) (c6 n)
noncomputable def db5 (n : Nat) (X6 : XC) : XC :=
  (.aft (.seq (.seq (.reg (.op (.mv 34 (.t 9)) none <| .op (.mv 35 (.t 0)) none <| .op (.len 36 (.t 35) false) none <| .op (.bin 37 .lss (.t 34) (.t 36)) none <| .nil)) <|
  (.cond (.t 37)
  .skip
  (.pre [.keep [0, 7, 8]] (.exit 0)))) <|
  (.seq (.aft (.block 1 (.seq (.regD (.op (.mv 40 (.t 0)) (some ([0, 40], [40])) <| .op (.mv 41 (.t 9)) (some ([9, 41], [41])) <| .op (.idxA 42 (.t 40) (.t 41) 9 0) (some ([40, 41, 42], [42])) <| .op (.ld 43 42 9 true) (some ([42, 43], [43])) <| .op (.mv 44 (.t 2)) (some ([2, 44], [44])) <| .op (.call (some 45) (cml_Touches.sp n) [.v (.t 43), .v (.t 44)]) (some ([43, 44, 45], [45])) <| .op (.mv 46 (.t 0)) (some ([0, 46], [46])) <| .op (.mv 47 (.t 9)) (some ([9, 47], [47])) <| .op (.idxA 48 (.t 46) (.t 47) 9 0) (some ([46, 47, 48], [48])) <| .op (.ld 49 48 9 true) (some ([48, 49], [49])) <| .op (.mv 50 (.t 2)) (some ([2, 50], [50])) <| .op (.call (some 51) (r08_Touches.sp n) [.v (.t 49), .v (.t 50)]) (some ([49, 50, 51], [51])) <| .op (.eqs 52 true (.t 45) (.t 51) .bool) (some ([45, 51, 52], [52])) <| .nil)) <|
  (.cond (.t 52)
  (.seq (.pre [.keep []] (.reg (.op (.mv 6 (.c ⟨.bool, (false : Bool)⟩)) none <| .nil))) <|
  .ret)
  .skip))) [.keep [0, 2, 7, 8, 9]]) X6)) [.keep [0, 2, 7, 8, 9]])
noncomputable abbrev cb5 (n : Nat) : XC := db5 n (c6 n)
theorem q1_0_r (n : Nat) (X : XC) (x0 : List DRecord) (x7 : List DRecord) (x8 : List DRecord) : H1 n X (Z2 x0 x7 x8) = (ev X (Z2 x0 x7 x8) (E []) (retK rs ps r) : Option R) := by kernel_rfl
theorem q1_0 (n : Nat) (x0 : List DRecord) (x7 : List DRecord) (x8 : List DRecord) : K1 n (Z2 x0 x7 x8) = j1 n x0 x7 x8 := (q1_0_r n (c1 n) x0 x7 x8).trans (s1 n x0 x7 x8)
noncomputable def l5 (n : Nat) : Nat → (List DRecord) → Int → (List DRecord) → (List DRecord) → Int → Option Bool
  | 0, _, _, _, _, _ => none
  | k + 1, x0, x2, x7, x8, x9 =>
  bif (decide (x9 < (x0.length : Int))) then (idxK x0 x9 fun e1 => (cml_Touches.f n ((e1.1.1, e1.1.2.1, e1.1.2.2.1, e1.1.2.2.2.1, e1.1.2.2.2.2.1, e1.1.2.2.2.2.2.1, e1.1.2.2.2.2.2.2.1, e1.1.2.2.2.2.2.2.2.1, e1.1.2.2.2.2.2.2.2.2), e1.2.1, e1.2.2) x2).bind fun r2 => idxK x0 x9 fun e3 => (r08_Touches.f n ((e3.1.1, e3.1.2.1, e3.1.2.2.1, e3.1.2.2.2.1, e3.1.2.2.2.2.1, e3.1.2.2.2.2.2.1, e3.1.2.2.2.2.2.2.1, e3.1.2.2.2.2.2.2.2.1, e3.1.2.2.2.2.2.2.2.2), e3.2.1, e3.2.2) x2).bind fun r4 => bif (!(bbeq r2 r4)) then (some false)
  else (j6 n (l5 n k) x0 x2 x7 x8 x9))
  else (j1 n x0 x7 x8)
theorem wb5 (n : Nat) (Kr5 : Q) (x0 : List DRecord) (x2 : Int) (x7 : List DRecord) (x8 : List DRecord) (x9 : Int) (K1 : Q) (X6 : XC) : ev (db5 n X6) (keepSt (Z3 x0 x2 x7 x8 x9) [0, 2, 7, 8, 9]) (E [(0, K1)]) Kr5 =
  (bif (decide (x9 < (x0.length : Int))) then (idxK x0 x9 fun e1 => (cml_Touches.f n ((e1.1.1, e1.1.2.1, e1.1.2.2.1, e1.1.2.2.2.1, e1.1.2.2.2.2.1, e1.1.2.2.2.2.2.1, e1.1.2.2.2.2.2.2.1, e1.1.2.2.2.2.2.2.2.1, e1.1.2.2.2.2.2.2.2.2), e1.2.1, e1.2.2) x2).bind fun r2 => idxK x0 x9 fun e3 => (r08_Touches.f n ((e3.1.1, e3.1.2.1, e3.1.2.2.1, e3.1.2.2.2.1, e3.1.2.2.2.2.1, e3.1.2.2.2.2.2.1, e3.1.2.2.2.2.2.2.1, e3.1.2.2.2.2.2.2.2.1, e3.1.2.2.2.2.2.2.2.2), e3.2.1, e3.2.2) x2).bind fun r4 => bif (!(bbeq r2 r4)) then (some false)
  else (ev X6 (Z3 x0 x2 x7 x8 x9) (E [(0, K1)]) (Kb5 Kr5)))
  else (K1 (Z2 x0 x7 x8)) : Option R) := by kernel_rfl
theorem l5_ok (n : Nat) (k : Nat) : ∀ (x0 : List DRecord) (x2 : Int) (x7 : List DRecord) (x8 : List DRecord) (x9 : Int), loopEv [0, 2, 7, 8, 9] (fun s K => ev (cb5 n) s (E [(0, (K1 n))]) K) k (Z3 x0 x2 x7 x8 x9) = l5 n k x0 x2 x7 x8 x9 := by
  induction k with
  | zero => intros; rfl
  | succ k ih =>
    intro x0 x2 x7 x8 x9
    exact (wb5 n (fun st => loopEv [0, 2, 7, 8, 9] (fun s K => ev (cb5 n) s (E [(0, (K1 n))]) K) k st) x0 x2 x7 x8 x9 (K1 n) (c6 n)).trans (by simp -implicitDefEqProofs only [l5, s6 n (fun st => loopEv [0, 2, 7, 8, 9] (fun s K => ev (cb5 n) s (E [(0, (K1 n))]) K) k st) (l5 n k) ih, q1_0 n] <;> kernel_rfl)
noncomputable def d (n : Nat) (X1 Y5 : XC) : XC :=
  (.seq (.reg (.op (.mv 6 (.c ⟨.bool, (false : Bool)⟩)) none <| .nil)) <|
  (.seq (.reg (.op (.mv 12 (.t 0)) none <| .op (.call (some 13) (law08_few.sp n) [.v (.t 12)]) none <| .op (.mv 0 (.t 13)) none <| .nil)) <|
  (.seq (.reg (.op (.mv 14 (.t 0)) none <| .op (.mv 15 (.t 1)) none <| .op (.call (some 16) (cml_Cut.sp n) [.v (.t 14), .v (.t 15)]) none <| .op (.mv 17 (.t 0)) none <| .op (.mv 18 (.t 1)) none <| .op (.call (some 19) (cml_Drop.sp n) [.v (.t 17), .v (.t 18)]) none <| .op (.take 7 16) none <| .op (.take 8 19) none <| .nil)) <|
  (.seq (.seq (.reg (.op (.bor 20 7) none <| .op (.mv 21 (.t 0)) none <| .op (.mv 22 (.t 1)) none <| .op (.call (some 23) (r08_Cut.sp n) [.v (.t 21), .v (.t 22)]) none <| .op (.call (some 24) (r08_Same.sp n) [.v (.t 20), .v (.t 23)]) none <| .op (.un 25 .not (.t 24)) none <| .op (.mv 26 (.t 25)) none <| .grp 26 false (.op (.bor 27 8) (some ([8, 26, 27], [27])) <| .op (.mv 28 (.t 0)) (some ([0, 26, 28], [28])) <| .op (.mv 29 (.t 1)) (some ([1, 26, 29], [29])) <| .op (.call (some 30) (r08_Drop.sp n) [.v (.t 28), .v (.t 29)]) (some ([26, 28, 29, 30], [30])) <| .op (.call (some 31) (r08_Same.sp n) [.v (.t 27), .v (.t 30)]) (some ([8, 26, 27, 30, 31], [31])) <| .op (.un 32 .not (.t 31)) (some ([26, 31, 32], [32])) <| .nil) 32 33 [27, 28, 29, 30, 31, 32] <| .nil)) <|
  (.cond (.t 33)
  (.seq (.pre [.keep []] (.reg (.op (.mv 6 (.c ⟨.bool, (false : Bool)⟩)) none <| .nil))) <|
  .ret)
  .skip)) <|
  (.seq (.aft (.seq (.pre [.keep [0, 2, 7, 8]] (.reg (.op (.mv 9 (.c ⟨.int .i64, ((0 : Int) : Int)⟩)) none <| .nil))) <|
  (.block 0 (.pre [.keep [0, 2, 7, 8, 9]] (.loop n [0, 2, 7, 8, 9] Y5)))) [.keep [0, 7, 8]]) X1)))))
noncomputable abbrev c (n : Nat) : XC := d n (c1 n) (cb5 n)
noncomputable def f (n : Nat) (a0 : List DRecord) (a1 : Int) (a2 : Int) : Option Bool :=
  (law08_few.f n a0).bind fun r1 => (cml_Cut.f n r1 a1).bind fun r2 => (cml_Drop.f n r1 a1).bind fun r3 => (r08_Cut.f n r1 a1).bind fun r4 => (r08_Same.f n r2 r4).bind fun r5 => (bif (!r5) then some true else ((r08_Drop.f n r1 a1).bind fun r7 => (r08_Same.f n r3 r7).bind fun r8 => some (!r8))).bind fun g6 =>
  bif g6 then (some false)
  else (l5 n n r1 a2 r2 r3 (0 : Int))
theorem w (n : Nat) (a0 : List DRecord) (a1 : Int) (a2 : Int) (X1 Y5 : XC) : evFn (d n X1 Y5) rs ps r (a0, a1, a2, ()) =
  ((law08_few.f n a0).bind fun r1 => (cml_Cut.f n r1 a1).bind fun r2 => (cml_Drop.f n r1 a1).bind fun r3 => (r08_Cut.f n r1 a1).bind fun r4 => (r08_Same.f n r2 r4).bind fun r5 => (bif (!r5) then some true else ((r08_Drop.f n r1 a1).bind fun r7 => (r08_Same.f n r3 r7).bind fun r8 => some (!r8))).bind fun g6 =>
  bif g6 then (some false)
  else (loopEv [0, 2, 7, 8, 9] (fun s K => ev Y5 s (E [(0, (H1 n X1))]) K) n (Z3 r1 a2 r2 r3 (0 : Int))) : Option R) := by kernel_rfl
theorem ok (n : Nat) (a0 : List DRecord) (a1 : Int) (a2 : Int) : evFn (c n) rs ps r (a0, a1, a2, ()) = f n a0 a1 a2 := (w n a0 a1 a2 (c1 n) (cb5 n)).trans (by simp -implicitDefEqProofs only [f, l5_ok n] <;> kernel_rfl)
noncomputable def sp (n : Nat) : FSpec := { f := 8, ps := ps, r := r, run := fun x => f n x.1 x.2.1 x.2.2.1 }
theorem calls (n : Nat) : (c n).calls = [law08_few.sp n, cml_Cut.sp n, cml_Drop.sp n, r08_Cut.sp n, r08_Same.sp n, r08_Drop.sp n, r08_Same.sp n, cml_Touches.sp n, r08_Touches.sp n, cml_Ops.sp n, law08_live.sp n, cml_Same.sp n] := by kernel_rfl
theorem fits (n : Nat) : fnB tab hd Try.f8 (c n) rs (sp n).ps (sp n).r = true := by kernel_rfl
theorem sound (n : Nat) : Sound Try.prog (sp n) := by
  refine fnB_sound tabOk eqFacts mixed (fn := Try.f8) (c := c n) (rs := rs) (by kernel_rfl) ?_ (fits n) ?_
  · rw [calls]
    intro s hs
    simp only [List.mem_cons, List.not_mem_nil, or_false] at hs
    rcases hs with rfl | rfl | rfl | rfl | rfl | rfl | rfl | rfl | rfl | rfl | rfl | rfl
    · exact law08_few.meets n
    · exact cml_Cut.meets n
    · exact cml_Drop.meets n
    · exact r08_Cut.meets n
    · exact r08_Same.meets n
    · exact r08_Drop.meets n
    · exact r08_Same.meets n
    · exact cml_Touches.meets n
    · exact r08_Touches.meets n
    · exact cml_Ops.meets n
    · exact law08_live.meets n
    · exact cml_Same.meets n
  · rintro ⟨a0, a1, a2, ⟨⟩⟩ y h
    exact (ok n a0 a1 a2).trans h
theorem meets (n : Nat) : Meets Try.prog (sp n) := (sound n).meets
end law08_CmlCuts
/-! backwater/backwaterlaw08.CmlChunks -/
namespace law08_CmlChunks
abbrev ps : List (Ty × Bool) := [(.slB .U false TRecord, false), (.int .u8, false)]
abbrev r : Ty := .bool
abbrev rs : List RV := [.t 4]
abbrev R : Type := (rtOf ps r).den
abbrev Q : Type := St → Option R
abbrev E (l : List (Nat × Q)) : Ks R := ⟨retK rs ps r, l⟩
abbrev Z0 (x0 : Ty.den (.slB .U false TRecord)) (x6 : Ty.den (.slB .U false TRecord)) (x7 : Ty.den (.slX .N TRecord)) : St := [(0, some ⟨.slB .U false TRecord, x0⟩), (6, some ⟨.slB .U false TRecord, x6⟩), (7, some ⟨.slX .N TRecord, x7⟩)]
abbrev Z1 (x0 : Ty.den (.slB .U false TRecord)) (x5 : Ty.den (.int .i64)) (x6 : Ty.den (.slB .U false TRecord)) (x7 : Ty.den (.slX .N TRecord)) (x8 : Ty.den (.int .i64)) : St := [(0, some ⟨.slB .U false TRecord, x0⟩), (5, some ⟨.int .i64, x5⟩), (6, some ⟨.slB .U false TRecord, x6⟩), (7, some ⟨.slX .N TRecord, x7⟩), (8, some ⟨.int .i64, x8⟩)]
noncomputable def d1 (n : Nat) : XC :=
  (.seq (.reg (.op (.call (some 45) (law08_live.sp n) []) none <| .op (.mv 46 (.t 45)) none <| .grp 46 true (.op (.mv 47 (.t 6)) (some ([6, 46, 47], [47])) <| .op (.len 48 (.t 47) false) (some ([46, 47, 48], [48])) <| .op (.bin 49 .eql (.t 48) (.c ⟨.int .i64, ((0 : Int) : Int)⟩)) (some ([46, 48, 49], [49])) <| .nil) 49 50 [47, 48, 49] <| .op (.mv 51 (.t 50)) none <| .grp 51 true (.op (.bor 52 7) (some ([7, 51, 52], [52])) <| .op (.mv 53 (.t 0)) (some ([0, 51, 53], [53])) <| .op (.call (some 54) (cml_Same.sp n) [.v (.t 52), .v (.t 53)]) (some ([7, 51, 52, 53, 54], [54])) <| .nil) 54 55 [52, 53, 54] <| .op (.mv 4 (.t 55)) none <| .nil)) <|
  .ret)
noncomputable abbrev c1 (n : Nat) : XC := d1 n
noncomputable def j1 (n : Nat) (x0 : List DRecord) (x6 : List DRecord) (x7 : List DRecord) : Option Bool :=
  (law08_live.f n).bind fun r1 => (bif r1 then (some (decide ((x6.length : Int) = (0 : Int)))) else some false).bind fun g2 =>
  (bif g2 then ((cml_Same.f n x7 x0).bind fun r4 => some r4) else some false).bind fun g3 =>
  some g3
theorem s1 (n : Nat) (x0 : List DRecord) (x6 : List DRecord) (x7 : List DRecord) : ev (c1 n) (Z0 x0 x6 x7) (E []) (retK rs ps r) = j1 n x0 x6 x7 := by kernel_rfl
noncomputable def H1 (n : Nat) (X : XC) : Q := fun st => ghK [.keep [0, 6, 7]] st fun st => ev X st (E []) (retK rs ps r)
noncomputable abbrev K1 (n : Nat) : Q := H1 n (c1 n)
noncomputable def Kb2 (Kr2 : Q) : Q := fun st => ghK [.keep [0, 5, 6, 7, 8]] st Kr2
noncomputable def d3 (n : Nat) : XC :=
  (.aft (.reg (.op (.mv 24 (.t 8)) none <| .op (.bin 25 .add (.t 24) (.c ⟨.int .i64, ((1 : Int) : Int)⟩)) none <| .op (.mv 8 (.t 25)) none <| .nil)) [.keep [0, 5, 6, 7, 8]])
noncomputable abbrev c3 (n : Nat) : XC := d3 n
theorem qb2_0 (Kr2 : Q) (kr2 : (List DRecord) → Int → (List DRecord) → (List DRecord) → Int → Option Bool) (hK2 : ∀ (x0 : List DRecord) (x5 : Int) (x6 : List DRecord) (x7 : List DRecord) (x8 : Int), Kr2 (Z1 x0 x5 x6 x7 x8) = kr2 x0 x5 x6 x7 x8) (x0 : List DRecord) (x5 : Int) (x6 : List DRecord) (x7 : List DRecord) (x8 : Int) : Kb2 Kr2 (Z1 x0 x5 x6 x7 x8) = kr2 x0 x5 x6 x7 x8 := (by kernel_rfl : _ = Kr2 (Z1 x0 x5 x6 x7 x8)).trans (hK2 x0 x5 x6 x7 x8)
noncomputable def j3 (n : Nat) (kr2 : (List DRecord) → Int → (List DRecord) → (List DRecord) → Int → Option Bool) (x0 : List DRecord) (x5 : Int) (x6 : List DRecord) (x7 : List DRecord) (x8 : Int) : Option Bool :=
  kr2 x0 x5 x6 x7 (IntKind.i64.wrap (x8 + (1 : Int)))
theorem w3 (n : Nat) (Kr2 : Q) (x0 : List DRecord) (x5 : Int) (x6 : List DRecord) (x7 : List DRecord) (x8 : Int) (K1 : Q) (Kb2 : Q) : ev (d3 n) (Z1 x0 x5 x6 x7 x8) (E [(0, K1)]) Kb2 =
  (Kb2 (Z1 x0 x5 x6 x7 (IntKind.i64.wrap (x8 + (1 : Int)))) : Option R) := by kernel_rfl
theorem s3 (n : Nat) (Kr2 : Q) (kr2 : (List DRecord) → Int → (List DRecord) → (List DRecord) → Int → Option Bool) (hK2 : ∀ (x0 : List DRecord) (x5 : Int) (x6 : List DRecord) (x7 : List DRecord) (x8 : Int), Kr2 (Z1 x0 x5 x6 x7 x8) = kr2 x0 x5 x6 x7 x8) (x0 : List DRecord) (x5 : Int) (x6 : List DRecord) (x7 : List DRecord) (x8 : Int) : ev (c3 n) (Z1 x0 x5 x6 x7 x8) (E [(0, (K1 n))]) (Kb2 Kr2) = j3 n kr2 x0 x5 x6 x7 x8 := (w3 n Kr2 x0 x5 x6 x7 x8 (K1 n) (Kb2 Kr2)).trans (by simp -implicitDefEqProofs only [j3, qb2_0 Kr2 kr2 hK2] <;> kernel_rfl)
noncomputable def H3 (n : Nat) (K1 : Q) (Kb2 : Q) (X : XC) : Q := fun st => ghK [.keep [0, 5, 6, 7, 8]] st fun st => ev X st (E [(0, K1)]) Kb2
noncomputable abbrev K3 (n : Nat) (Kr2 : Q) : Q := H3 n (K1 n) (Kb2 Kr2) (c3 n)
noncomputable def db2 (n : Nat) (X3 : XC) : XC :=
  (.aft (.seq (.seq (.reg (.op (.mv 17 (.t 8)) none <| .op (.bin 18 .lss (.t 17) (.c ⟨.int .i64, ((50 : Int) : Int)⟩)) none <| .op (.mv 19 (.t 18)) none <| .grp 19 true (.op (.mv 20 (.t 6)) (some ([6, 19, 20], [20])) <| .op (.len 21 (.t 20) false) (some ([19, 20, 21], [21])) <| .op (.bin 22 .gtr (.t 21) (.c ⟨.int .i64, ((0 : Int) : Int)⟩)) (some ([19, 21, 22], [22])) <| .nil) 22 23 [20, 21, 22] <| .nil)) <|
  (.cond (.t 23)
  .skip
  (.pre [.keep [0, 6, 7]] (.exit 0)))) <|
  (.seq (.aft (.block 1 (.seq (.reg (.op (.mv 26 (.t 6)) none <| .op (.mv 27 (.t 5)) none <| .op (.call (some 28) (cml_Cut.sp n) [.v (.t 26), .v (.t 27)]) none <| .op (.take 9 28) none <| .nil)) <|
  (.seq (.seq (.reg (.op (.bor 29 9) none <| .op (.len 30 (.t 29) false) none <| .op (.bin 31 .eql (.t 30) (.c ⟨.int .i64, ((0 : Int) : Int)⟩)) none <| .op (.mv 32 (.t 31)) none <| .grp 32 false (.op (.bor 33 9) (some ([9, 32, 33], [33])) <| .op (.len 34 (.t 33) false) (some ([9, 32, 33, 34], [34])) <| .op (.mv 35 (.t 5)) (some ([5, 32, 35], [35])) <| .op (.bin 36 .gtr (.t 34) (.t 35)) (some ([32, 34, 35, 36], [36])) <| .nil) 36 37 [33, 34, 35, 36] <| .nil)) <|
  (.cond (.t 37)
  (.seq (.pre [.keep []] (.reg (.op (.mv 4 (.c ⟨.bool, (false : Bool)⟩)) none <| .nil))) <|
  .ret)
  .skip)) <|
  (.seq (.pre [.keep [0, 5, 6, 7, 8, 9]] (.reg (.op (.take 38 7) none <| .op (.bor 39 9) none <| .op (.app 40 38 (.t 39) 88 9) none <| .op (.take 7 40) none <| .nil))) <|
  (.reg (.op (.mv 41 (.t 6)) none <| .op (.bor 42 9) none <| .op (.len 43 (.t 42) false) none <| .op (.call (some 44) (cml_Drop.sp n) [.v (.t 41), .v (.t 43)]) none <| .op (.frz 6 44) none <| .nil)))))) [.keep [0, 5, 6, 7, 8]]) X3)) [.keep [0, 5, 6, 7, 8]])
noncomputable abbrev cb2 (n : Nat) : XC := db2 n (c3 n)
theorem q1_0_r (n : Nat) (X : XC) (x0 : List DRecord) (x6 : List DRecord) (x7 : List DRecord) : H1 n X (Z0 x0 x6 x7) = (ev X (Z0 x0 x6 x7) (E []) (retK rs ps r) : Option R) := by kernel_rfl
theorem q1_0 (n : Nat) (x0 : List DRecord) (x6 : List DRecord) (x7 : List DRecord) : K1 n (Z0 x0 x6 x7) = j1 n x0 x6 x7 := (q1_0_r n (c1 n) x0 x6 x7).trans (s1 n x0 x6 x7)
noncomputable def l2 (n : Nat) : Nat → (List DRecord) → Int → (List DRecord) → (List DRecord) → Int → Option Bool
  | 0, _, _, _, _, _ => none
  | k + 1, x0, x5, x6, x7, x8 =>
  (bif (decide (x8 < (50 : Int))) then (some (decide ((0 : Int) < (x6.length : Int)))) else some false).bind fun g1 =>
  bif g1 then ((cml_Cut.f n x6 x5).bind fun r2 => (bif (decide ((r2.length : Int) = (0 : Int))) then some true else (some (decide (x5 < (r2.length : Int))))).bind fun g3 =>
  bif g3 then (some false)
  else (appK x7.length r2.length 88 ((cml_Drop.f n x6 (r2.length : Int)).bind fun r4 => j3 n (l2 n k) x0 x5 r4 (x7 ++ r2) x8)))
  else (j1 n x0 x6 x7)
theorem wb2 (n : Nat) (Kr2 : Q) (x0 : List DRecord) (x5 : Int) (x6 : List DRecord) (x7 : List DRecord) (x8 : Int) (K1 : Q) (X3 : XC) : ev (db2 n X3) (keepSt (Z1 x0 x5 x6 x7 x8) [0, 5, 6, 7, 8]) (E [(0, K1)]) Kr2 =
  ((bif (decide (x8 < (50 : Int))) then (some (decide ((0 : Int) < (x6.length : Int)))) else some false).bind fun g1 =>
  bif g1 then ((cml_Cut.f n x6 x5).bind fun r2 => (bif (decide ((r2.length : Int) = (0 : Int))) then some true else (some (decide (x5 < (r2.length : Int))))).bind fun g3 =>
  bif g3 then (some false)
  else (appK x7.length r2.length 88 ((cml_Drop.f n x6 (r2.length : Int)).bind fun r4 => ev X3 (Z1 x0 x5 r4 ((x7 ++ r2) : List DRecord) x8) (E [(0, K1)]) (Kb2 Kr2))))
  else (K1 (Z0 x0 x6 x7)) : Option R) := by kernel_rfl
theorem l2_ok (n : Nat) (k : Nat) : ∀ (x0 : List DRecord) (x5 : Int) (x6 : List DRecord) (x7 : List DRecord) (x8 : Int), loopEv [0, 5, 6, 7, 8] (fun s K => ev (cb2 n) s (E [(0, (K1 n))]) K) k (Z1 x0 x5 x6 x7 x8) = l2 n k x0 x5 x6 x7 x8 := by
  induction k with
  | zero => intros; rfl
  | succ k ih =>
    intro x0 x5 x6 x7 x8
    exact (wb2 n (fun st => loopEv [0, 5, 6, 7, 8] (fun s K => ev (cb2 n) s (E [(0, (K1 n))]) K) k st) x0 x5 x6 x7 x8 (K1 n) (c3 n)).trans (by simp -implicitDefEqProofs only [l2, s3 n (fun st => loopEv [0, 5, 6, 7, 8] (fun s K => ev (cb2 n) s (E [(0, (K1 n))]) K) k st) (l2 n k) ih, q1_0 n] <;> kernel_rfl)
noncomputable def d (n : Nat) (X1 Y2 : XC) : XC :=
  (.seq (.reg (.op (.mv 4 (.c ⟨.bool, (false : Bool)⟩)) none <| .nil)) <|
  (.seq (.reg (.op (.mv 10 (.t 0)) none <| .op (.call (some 11) (law08_few.sp n) [.v (.t 10)]) none <| .op (.mv 0 (.t 11)) none <| .nil)) <|
  (.seq (.reg (.op (.mv 12 (.t 1)) none <| .op (.cvt 13 (.int .i64) (.t 12)) none <| .op (.bin 14 .rem (.t 13) (.c ⟨.int .i64, ((8 : Int) : Int)⟩)) none <| .op (.bin 15 .add (.t 14) (.c ⟨.int .i64, ((1 : Int) : Int)⟩)) none <| .op (.mv 5 (.t 15)) none <| .nil)) <|
  (.seq (.reg (.op (.mv 16 (.t 0)) none <| .op (.mv 6 (.t 16)) none <| .nil)) <|
  (.seq (.reg (.op (.mv 7 (.c ⟨.nil 0, ()⟩)) none <| .nil)) <|
  (.seq (.aft (.seq (.reg (.op (.mv 8 (.c ⟨.int .i64, ((0 : Int) : Int)⟩)) none <| .nil)) <|
  (.block 0 (.pre [.coe 7 (.slX .N TRecord), .keep [0, 5, 6, 7, 8]] (.loop n [0, 5, 6, 7, 8] Y2)))) [.keep [0, 6, 7]]) X1))))))
noncomputable abbrev c (n : Nat) : XC := d n (c1 n) (cb2 n)
noncomputable def f (n : Nat) (a0 : List DRecord) (a1 : Int) : Option Bool :=
  (law08_few.f n a0).bind fun r1 => nzK (8 : Int) (l2 n n r1 (IntKind.i64.wrap ((Int.tmod (IntKind.i64.wrap a1) (8 : Int)) + (1 : Int))) r1 ([] : List DRecord) (0 : Int))
theorem w (n : Nat) (a0 : List DRecord) (a1 : Int) (X1 Y2 : XC) : evFn (d n X1 Y2) rs ps r (a0, a1, ()) =
  ((law08_few.f n a0).bind fun r1 => nzK (8 : Int) (loopEv [0, 5, 6, 7, 8] (fun s K => ev Y2 s (E [(0, (H1 n X1))]) K) n (Z1 r1 (IntKind.i64.wrap ((Int.tmod (IntKind.i64.wrap a1) (8 : Int)) + (1 : Int))) r1 (([] : List DRecord) : List DRecord) (0 : Int))) : Option R) := by kernel_rfl
theorem ok (n : Nat) (a0 : List DRecord) (a1 : Int) : evFn (c n) rs ps r (a0, a1, ()) = f n a0 a1 := (w n a0 a1 (c1 n) (cb2 n)).trans (by simp -implicitDefEqProofs only [f, l2_ok n] <;> kernel_rfl)
noncomputable def sp (n : Nat) : FSpec := { f := 6, ps := ps, r := r, run := fun x => f n x.1 x.2.1 }
theorem calls (n : Nat) : (c n).calls = [law08_few.sp n, cml_Cut.sp n, cml_Drop.sp n, law08_live.sp n, cml_Same.sp n] := by kernel_rfl
theorem fits (n : Nat) : fnB tab hd Try.f6 (c n) rs (sp n).ps (sp n).r = true := by kernel_rfl
theorem sound (n : Nat) : Sound Try.prog (sp n) := by
  refine fnB_sound tabOk eqFacts mixed (fn := Try.f6) (c := c n) (rs := rs) (by kernel_rfl) ?_ (fits n) ?_
  · rw [calls]
    intro s hs
    simp only [List.mem_cons, List.not_mem_nil, or_false] at hs
    rcases hs with rfl | rfl | rfl | rfl | rfl
    · exact law08_few.meets n
    · exact cml_Cut.meets n
    · exact cml_Drop.meets n
    · exact law08_live.meets n
    · exact cml_Same.meets n
  · rintro ⟨a0, a1, ⟨⟩⟩ y h
    exact (ok n a0 a1).trans h
theorem meets (n : Nat) : Meets Try.prog (sp n) := (sound n).meets
end law08_CmlChunks
end Go.Proofs.Ytggidaedacngbaa.S
