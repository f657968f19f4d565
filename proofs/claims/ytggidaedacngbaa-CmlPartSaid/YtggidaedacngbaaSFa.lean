/- The functions of the seat: annotated code, shallow functions, and that each keeps its contract. Printed by pr.py. -/
import Derived.Test.YtggidaedacngbaaSTab
namespace Go.Proofs.Ytggidaedacngbaa.S
open Go Go.Proofs Go.Proofs.Bw
set_option maxRecDepth 100000
set_option linter.unusedVariables false
abbrev TboundsError : Ty := .pair (.int .i64) (.pair (.int .i64) (.pair .bool (.pair (.int .u8) .unit)))
abbrev DboundsError : Type := Int × Int × Bool × Int × Unit
abbrev TerrorAddressString : Ty := .pair .str (.pair (.int .u64) .unit)
abbrev DerrorAddressString : Type := (List Int) × Int × Unit
abbrev TOp : Ty := .pair (.int .u8) (.pair (.int .u32) (.pair (.int .u32) (.pair .str (.pair (.int .u32) (.pair .str (.pair (.int .u16) (.pair .str .unit)))))))
abbrev DOp : Type := Int × Int × Int × (List Int) × Int × (List Int) × Int × (List Int) × Unit
abbrev TRecord : Ty := .pair TOp (.pair (.int .u64) .unit)
abbrev DRecord : Type := DOp × Int × Unit
abbrev Tcontent : Ty := .pair (.int .u8) (.pair (.int .u32) .unit)
abbrev Dcontent : Type := Int × Int × Unit
abbrev TNode : Ty := .pair (.int .u32) (.pair (.int .u8) (.pair (.int .u16) (.pair (.int .u16) (.pair (.slB .U false (.int .u8)) (.pair (.slB .U false (.pair .str (.pair (.int .u32) .unit))) .unit)))))
abbrev DNode : Type := Int × Int × Int × Int × (List Int) × (List ((List Int) × Int × Unit)) × Unit
abbrev TNodeX : Ty := .pair (.int .u32) (.pair (.int .u8) (.pair (.int .u16) (.pair (.int .u16) (.pair (.slX .U (.int .u8)) (.pair (.slX .U (.pair .str (.pair (.int .u32) .unit))) .unit)))))
abbrev TKid : Ty := .pair .str (.pair (.int .u32) .unit)
abbrev DKid : Type := (List Int) × Int × Unit
def mapSet1 (x : Dcontent) (z : Int) (l : List (Dcontent × Int)) : List (Dcontent × Int) := mapSet (β := Ty.den (.int .i64)) Tcontent x z l
def mapGet1 (x : Dcontent) (l : List (Dcontent × Int)) : Option Int := mapGet (β := Ty.den (.int .i64)) Tcontent x l
/-! backwater/backwaterlaw08.few -/
namespace law08_few
abbrev ps : List (Ty × Bool) := [(.slB .U false TRecord, false)]
abbrev r : Ty := .slB .U false TRecord
abbrev rs : List RV := [.t 2]
abbrev R : Type := (rtOf ps r).den
abbrev Q : Type := St → Option R
abbrev E (l : List (Nat × Q)) : Ks R := ⟨retK rs ps r, l⟩
noncomputable def d (n : Nat) : XC :=
  (.seq (.reg (.op (.mv 2 (.c ⟨.nil 0, ()⟩)) none <| .nil)) <|
  (.seq (.seq (.reg (.op (.mv 3 (.t 0)) none <| .op (.len 4 (.t 3) false) none <| .op (.bin 5 .gtr (.t 4) (.c ⟨.int .i64, ((40 : Int) : Int)⟩)) none <| .nil)) <|
  (.cond (.t 5)
  (.seq (.reg (.op (.mv 6 (.t 0)) none <| .op (.slc 7 (.t 6) none (some (.c ⟨.int .i64, ((40 : Int) : Int)⟩)) none 9) none <| .op (.mv 2 (.t 7)) none <| .nil)) <|
  .ret)
  .skip)) <|
  (.seq (.reg (.op (.mv 8 (.t 0)) none <| .op (.mv 2 (.t 8)) none <| .nil)) <|
  .ret)))
noncomputable abbrev c (n : Nat) : XC := d n
noncomputable def f (n : Nat) (a0 : List DRecord) : Option (List DRecord) :=
  bif (decide ((40 : Int) < (a0.length : Int))) then (sliceK 0 (40 : Int) a0.length (some (cut a0 0 (40 : Int))))
  else (some a0)
theorem ok (n : Nat) (a0 : List DRecord) : evFn (c n) rs ps r (a0, ()) = f n a0 := by kernel_rfl
noncomputable def sp (n : Nat) : FSpec := { f := 10, ps := ps, r := r, run := fun x => f n x.1 }
theorem calls (n : Nat) : (c n).calls = [] := by kernel_rfl
theorem fits (n : Nat) : fnB tab hd Try.f10 (c n) rs (sp n).ps (sp n).r = true := by kernel_rfl
theorem sound (n : Nat) : Sound Try.prog (sp n) := by
  refine fnB_sound tabOk eqFacts mixed (fn := Try.f10) (c := c n) (rs := rs) (by kernel_rfl) ?_ (fits n) ?_
  · rw [calls]
    intro s hs; cases hs
  · rintro ⟨a0, ⟨⟩⟩ y h
    exact (ok n a0).trans h
theorem meets (n : Nat) : Meets Try.prog (sp n) := (sound n).meets
end law08_few
/-! backwater/cml.of -/
namespace cml_of
abbrev ps : List (Ty × Bool) := [(TRecord, false)]
abbrev r : Ty := .tup (.pair Tcontent (.pair .bool .unit))
abbrev rs : List RV := [.c 2 2 true, .t 3]
abbrev R : Type := (rtOf ps r).den
abbrev Q : Type := St → Option R
abbrev E (l : List (Nat × Q)) : Ks R := ⟨retK rs ps r, l⟩
noncomputable def d (n : Nat) : XC :=
  (.seq (.reg (.op (.boxv 1 (.t 0)) none <| .op (.alloc 2 ⟨Tcontent, (((0 : Int), (0 : Int), ()) : Dcontent)⟩) none <| .op (.mv 3 (.c ⟨.bool, (false : Bool)⟩)) none <| .nil)) <|
  (.seq (.reg (.op (.fa 5 1 0 0) none <| .op (.fa 6 5 0 0) none <| .op (.ld 7 6 1 false) none <| .op (.mv 4 (.t 7)) none <| .nil)) <|
  (.seq (.reg (.op (.mv 8 (.t 4)) none <| .op (.fa 9 1 0 0) none <| .op (.fa 10 9 1 1) none <| .op (.ld 11 10 1 false) none <| .op (.build 12 ⟨Tcontent, (((0 : Int), (0 : Int), ()) : Dcontent)⟩ [(0, (.t 8), false), (1, (.t 11), false)]) none <| .op (.mv 13 (.t 4)) none <| .op (.bin 14 .eql (.t 13) (.c ⟨.int .u8, ((8 : Int) : Int)⟩)) none <| .op (.mv 15 (.t 14)) none <| .grp 15 false (.op (.mv 16 (.t 4)) (some ([4, 15, 16], [16])) <| .op (.bin 17 .eql (.t 16) (.c ⟨.int .u8, ((9 : Int) : Int)⟩)) (some ([15, 16, 17], [17])) <| .nil) 17 18 [16, 17] <| .op (.st 2 (.t 12) 2) none <| .op (.mv 3 (.t 18)) none <| .nil)) <|
  .ret)))
noncomputable abbrev c (n : Nat) : XC := d n
noncomputable def f (n : Nat) (a0 : DRecord) : Option (Dcontent × Bool × Unit) :=
  (bif (decide (a0.1.1 = (8 : Int))) then some true else (some (decide (a0.1.1 = (9 : Int))))).bind fun g1 =>
  some ((a0.1.1, a0.1.2.1, ()), g1, ())
theorem ok (n : Nat) (a0 : DRecord) : evFn (c n) rs ps r (a0, ()) = f n a0 := by kernel_rfl
noncomputable def sp (n : Nat) : FSpec := { f := 29, ps := ps, r := r, run := fun x => f n x.1 }
theorem calls (n : Nat) : (c n).calls = [] := by kernel_rfl
theorem fits (n : Nat) : fnB tab hd Try.f29 (c n) rs (sp n).ps (sp n).r = true := by kernel_rfl
theorem sound (n : Nat) : Sound Try.prog (sp n) := by
  refine fnB_sound tabOk eqFacts mixed (fn := Try.f29) (c := c n) (rs := rs) (by kernel_rfl) ?_ (fits n) ?_
  · rw [calls]
    intro s hs; cases hs
  · rintro ⟨a0, ⟨⟩⟩ y h
    exact (ok n a0).trans h
theorem meets (n : Nat) : Meets Try.prog (sp n) := (sound n).meets
end cml_of
/-! backwater/cml.undo -/
namespace cml_undo
abbrev ps : List (Ty × Bool) := [(.int .u8, false)]
abbrev r : Ty := .int .u8
abbrev rs : List RV := [.t 2]
abbrev R : Type := (rtOf ps r).den
abbrev Q : Type := St → Option R
abbrev E (l : List (Nat × Q)) : Ks R := ⟨retK rs ps r, l⟩
abbrev Z0 (x3 : Ty.den (.int .u8)) (x4 : Ty.den (.bool)) : St := [(3, some ⟨.int .u8, x3⟩), (4, some ⟨.bool, x4⟩)]
noncomputable def d1 (n : Nat) : XC :=
  (.seq (.reg (.op (.mv 2 (.c ⟨.int .u8, ((0 : Int) : Int)⟩)) none <| .nil)) <|
  .ret)
noncomputable abbrev c1 (n : Nat) : XC := d1 n
noncomputable def j1 (n : Nat)  : Option Int :=
  some (0 : Int)
theorem s1 (n : Nat)  : ev (c1 n) [] (E []) (retK rs ps r) = j1 n  := by kernel_rfl
noncomputable def H1 (n : Nat) (X : XC) : Q := fun st => ghK [.keep []] st fun st => ev X st (E []) (retK rs ps r)
noncomputable abbrev K1 (n : Nat) : Q := H1 n (c1 n)
noncomputable def d2 (n : Nat) : XC :=
  (.aft (.cond (.t 4)
  (.seq (.reg (.op (.mv 2 (.c ⟨.int .u8, ((5 : Int) : Int)⟩)) none <| .nil)) <|
  .ret)
  (.seq (.reg (.op (.bin 8 .eql (.t 3) (.c ⟨.int .u8, ((2 : Int) : Int)⟩)) none <| .op (.mv 7 (.t 8)) none <| .nil)) <|
  (.cond (.t 7)
  (.seq (.reg (.op (.mv 2 (.c ⟨.int .u8, ((6 : Int) : Int)⟩)) none <| .nil)) <|
  .ret)
  .skip))) [.keep []])
noncomputable abbrev c2 (n : Nat) : XC := d2 n
theorem q1_0_r (n : Nat) (X : XC)  : H1 n X [] = (ev X [] (E []) (retK rs ps r) : Option R) := by kernel_rfl
theorem q1_0 (n : Nat)  : K1 n [] = j1 n  := (q1_0_r n (c1 n) ).trans (s1 n )
noncomputable def j2 (n : Nat) (x3 : Int) (x4 : Bool) : Option Int :=
  bif x4 then (some (5 : Int))
  else (bif (decide (x3 = (2 : Int))) then (some (6 : Int))
  else (j1 n ))
theorem w2 (n : Nat) (x3 : Int) (x4 : Bool) (K1 : Q) : ev (d2 n) (Z0 x3 x4) (E [(0, K1)]) K1 =
  (bif x4 then (some (5 : Int))
  else (bif (decide (x3 = (2 : Int))) then (some (6 : Int))
  else (K1 [])) : Option R) := by kernel_rfl
theorem s2 (n : Nat) (x3 : Int) (x4 : Bool) : ev (c2 n) (Z0 x3 x4) (E [(0, (K1 n))]) (K1 n) = j2 n x3 x4 := (w2 n x3 x4 (K1 n)).trans (by simp -implicitDefEqProofs only [j2, q1_0 n] <;> kernel_rfl)
noncomputable def H2 (n : Nat) (K1 : Q) (X : XC) : Q := fun st => ghK [.keep [3, 4]] st fun st => ev X st (E [(0, K1)]) K1
noncomputable abbrev K2 (n : Nat) : Q := H2 n (K1 n) (c2 n)
noncomputable def d (n : Nat) (X1 X2 : XC) : XC :=
  (.seq (.reg (.op (.mv 2 (.c ⟨.int .u8, ((0 : Int) : Int)⟩)) none <| .nil)) <|
  (.seq (.aft (.seq (.reg (.op (.mv 3 (.t 0)) none <| .nil)) <|
  (.block 0 (.seq (.aft (.seq (.reg (.op (.bin 5 .eql (.t 3) (.c ⟨.int .u8, ((1 : Int) : Int)⟩)) none <| .op (.mv 4 (.t 5)) none <| .nil)) <|
  (.cond (.t 4)
  .skip
  (.reg (.op (.bin 6 .eql (.t 3) (.c ⟨.int .u8, ((3 : Int) : Int)⟩)) none <| .op (.mv 4 (.t 6)) none <| .nil)))) [.keep [3, 4]]) X2))) [.keep []]) X1))
noncomputable abbrev c (n : Nat) : XC := d n (c1 n) (c2 n)
noncomputable def f (n : Nat) (a0 : Int) : Option Int :=
  bif (decide (a0 = (1 : Int))) then (j2 n a0 (decide (a0 = (1 : Int))))
  else (j2 n a0 (decide (a0 = (3 : Int))))
theorem w (n : Nat) (a0 : Int) (X1 X2 : XC) : evFn (d n X1 X2) rs ps r (a0, ()) =
  (bif (decide (a0 = (1 : Int))) then (ev X2 (Z0 a0 ((decide (a0 = (1 : Int))) : Bool)) (E [(0, (H1 n X1))]) (H1 n X1))
  else (ev X2 (Z0 a0 ((decide (a0 = (3 : Int))) : Bool)) (E [(0, (H1 n X1))]) (H1 n X1)) : Option R) := by kernel_rfl
theorem ok (n : Nat) (a0 : Int) : evFn (c n) rs ps r (a0, ()) = f n a0 := (w n a0 (c1 n) (c2 n)).trans (by simp -implicitDefEqProofs only [f, s2 n] <;> kernel_rfl)
noncomputable def sp (n : Nat) : FSpec := { f := 45, ps := ps, r := r, run := fun x => f n x.1 }
theorem calls (n : Nat) : (c n).calls = [] := by kernel_rfl
theorem fits (n : Nat) : fnB tab hd Try.f45 (c n) rs (sp n).ps (sp n).r = true := by kernel_rfl
theorem sound (n : Nat) : Sound Try.prog (sp n) := by
  refine fnB_sound tabOk eqFacts mixed (fn := Try.f45) (c := c n) (rs := rs) (by kernel_rfl) ?_ (fits n) ?_
  · rw [calls]
    intro s hs; cases hs
  · rintro ⟨a0, ⟨⟩⟩ y h
    exact (ok n a0).trans h
theorem meets (n : Nat) : Meets Try.prog (sp n) := (sound n).meets
end cml_undo
/-! backwater/tree.Names$1 -/
namespace tree_Names_1
abbrev ps : List (Ty × Bool) := [(.int .u32, false)]
abbrev r : Ty := .bool
abbrev rs : List RV := [.t 2]
abbrev R : Type := (rtOf ps r).den
abbrev Q : Type := St → Option R
abbrev E (l : List (Nat × Q)) : Ks R := ⟨retK rs ps r, l⟩
noncomputable def d (n : Nat) : XC :=
  (.seq (.reg (.op (.mv 2 (.c ⟨.bool, (false : Bool)⟩)) none <| .nil)) <|
  (.seq (.reg (.op (.mv 3 (.t 0)) none <| .op (.bin 4 .eql (.t 3) (.c ⟨.int .u32, ((0 : Int) : Int)⟩)) none <| .op (.mv 2 (.t 4)) none <| .nil)) <|
  .ret))
noncomputable abbrev c (n : Nat) : XC := d n
noncomputable def f (n : Nat) (a0 : Int) : Option Bool :=
  some (decide (a0 = (0 : Int)))
theorem ok (n : Nat) (a0 : Int) : evFn (c n) rs ps r (a0, ()) = f n a0 := by kernel_rfl
noncomputable def sp (n : Nat) : FSpec := { f := 57, ps := ps, r := r, run := fun x => f n x.1 }
theorem calls (n : Nat) : (c n).calls = [] := by kernel_rfl
theorem fits (n : Nat) : fnB tab hd Try.f57 (c n) rs (sp n).ps (sp n).r = true := by kernel_rfl
theorem sound (n : Nat) : Sound Try.prog (sp n) := by
  refine fnB_sound tabOk eqFacts mixed (fn := Try.f57) (c := c n) (rs := rs) (by kernel_rfl) ?_ (fits n) ?_
  · rw [calls]
    intro s hs; cases hs
  · rintro ⟨a0, ⟨⟩⟩ y h
    exact (ok n a0).trans h
theorem meets (n : Nat) : Meets Try.prog (sp n) := (sound n).meets
end tree_Names_1
/-! slices.IndexFunc[[]backwater/api.Fid,backwater/api.Fid] -/
namespace slices_IndexFunc
abbrev ps : List (Ty × Bool) := [(.slB .U false (.int .u32), false), (.fn 57 .unit, false)]
abbrev r : Ty := .int .i64
abbrev rs : List RV := [.t 4]
abbrev R : Type := (rtOf ps r).den
abbrev Q : Type := St → Option R
abbrev E (l : List (Nat × Q)) : Ks R := ⟨retK rs ps r, l⟩
abbrev Z0 (x0 : Ty.den (.slB .U false (.int .u32))) (x1 : Ty.den (.fn 57 .unit)) (x7 : Ty.den (.int .i64)) (x8 : Ty.den (.int .i64)) : St := [(0, some ⟨.slB .U false (.int .u32), x0⟩), (1, some ⟨.fn 57 .unit, x1⟩), (7, some ⟨.int .i64, x7⟩), (8, some ⟨.int .i64, x8⟩)]
noncomputable def d1 (n : Nat) : XC :=
  (.seq (.reg (.op (.mv 4 (.c ⟨.int .i64, ((-1 : Int) : Int)⟩)) none <| .nil)) <|
  .ret)
noncomputable abbrev c1 (n : Nat) : XC := d1 n
noncomputable def j1 (n : Nat)  : Option Int :=
  some (-1 : Int)
theorem s1 (n : Nat)  : ev (c1 n) [] (E []) (retK rs ps r) = j1 n  := by kernel_rfl
noncomputable def H1 (n : Nat) (X : XC) : Q := fun st => ghK [.keep []] st fun st => ev X st (E []) (retK rs ps r)
noncomputable abbrev K1 (n : Nat) : Q := H1 n (c1 n)
noncomputable def Kb2 (Kr2 : Q) : Q := fun st => ghK [.keep [0, 1, 7, 8]] st Kr2
noncomputable def d3 (n : Nat) : XC :=
  (.aft (.reg (.op (.bin 18 .add (.t 8) (.c ⟨.int .i64, ((1 : Int) : Int)⟩)) none <| .op (.mv 8 (.t 18)) none <| .nil)) [.keep [0, 1, 7, 8]])
noncomputable abbrev c3 (n : Nat) : XC := d3 n
theorem qb2_0 (Kr2 : Q) (kr2 : (List Int) → Unit → Int → Int → Option Int) (hK2 : ∀ (x0 : List Int) (x1 : Unit) (x7 : Int) (x8 : Int), Kr2 (Z0 x0 x1 x7 x8) = kr2 x0 x1 x7 x8) (x0 : List Int) (x1 : Unit) (x7 : Int) (x8 : Int) : Kb2 Kr2 (Z0 x0 x1 x7 x8) = kr2 x0 x1 x7 x8 := (by kernel_rfl : _ = Kr2 (Z0 x0 x1 x7 x8)).trans (hK2 x0 x1 x7 x8)
noncomputable def j3 (n : Nat) (kr2 : (List Int) → Unit → Int → Int → Option Int) (x0 : List Int) (x1 : Unit) (x7 : Int) (x8 : Int) : Option Int :=
  kr2 x0 x1 x7 (IntKind.i64.wrap (x8 + (1 : Int)))
theorem w3 (n : Nat) (Kr2 : Q) (x0 : List Int) (x1 : Unit) (x7 : Int) (x8 : Int) (K1 : Q) (Kb2 : Q) : ev (d3 n) (Z0 x0 x1 x7 x8) (E [(0, K1)]) Kb2 =
  (Kb2 (Z0 x0 x1 x7 (IntKind.i64.wrap (x8 + (1 : Int)))) : Option R) := by kernel_rfl
theorem s3 (n : Nat) (Kr2 : Q) (kr2 : (List Int) → Unit → Int → Int → Option Int) (hK2 : ∀ (x0 : List Int) (x1 : Unit) (x7 : Int) (x8 : Int), Kr2 (Z0 x0 x1 x7 x8) = kr2 x0 x1 x7 x8) (x0 : List Int) (x1 : Unit) (x7 : Int) (x8 : Int) : ev (c3 n) (Z0 x0 x1 x7 x8) (E [(0, (K1 n))]) (Kb2 Kr2) = j3 n kr2 x0 x1 x7 x8 := (w3 n Kr2 x0 x1 x7 x8 (K1 n) (Kb2 Kr2)).trans (by simp -implicitDefEqProofs only [j3, qb2_0 Kr2 kr2 hK2] <;> kernel_rfl)
noncomputable def H3 (n : Nat) (K1 : Q) (Kb2 : Q) (X : XC) : Q := fun st => ghK [.keep [0, 1, 7, 8]] st fun st => ev X st (E [(0, K1)]) Kb2
noncomputable abbrev K3 (n : Nat) (Kr2 : Q) : Q := H3 n (K1 n) (Kb2 Kr2) (c3 n)
noncomputable def db2 (n : Nat) (X3 : XC) : XC :=
  (.aft (.seq (.reg (.op (.bin 9 .lss (.t 8) (.t 7)) none <| .nil)) <|
  (.seq (.cond (.t 9)
  .skip
  (.pre [.keep []] (.exit 0))) <|
  (.seq (.aft (.block 1 (.seq (.reg (.op (.mv 10 (.t 8)) none <| .op (.mv 5 (.t 10)) none <| .nil)) <|
  (.seq (.reg (.op (.mv 11 (.t 1)) none <| .op (.mv 12 (.t 0)) none <| .op (.mv 13 (.t 5)) none <| .op (.idxA 14 (.t 12) (.t 13) 1 0) none <| .op (.ld 15 14 1 false) none <| .op (.callV (some 16) (tree_Names_1.sp n) 11 19 [.v (.t 15)]) none <| .nil)) <|
  (.cond (.t 16)
  (.seq (.pre [.keep [5]] (.reg (.op (.mv 17 (.t 5)) none <| .op (.mv 4 (.t 17)) none <| .nil))) <|
  .ret)
  .skip)))) [.keep [0, 1, 7, 8]]) X3))) [.keep [0, 1, 7, 8]])
noncomputable abbrev cb2 (n : Nat) : XC := db2 n (c3 n)
theorem q1_0_r (n : Nat) (X : XC)  : H1 n X [] = (ev X [] (E []) (retK rs ps r) : Option R) := by kernel_rfl
theorem q1_0 (n : Nat)  : K1 n [] = j1 n  := (q1_0_r n (c1 n) ).trans (s1 n )
noncomputable def l2 (n : Nat) : Nat → (List Int) → Unit → Int → Int → Option Int
  | 0, _, _, _, _ => none
  | k + 1, x0, x1, x7, x8 =>
  bif (decide (x8 < x7)) then (idxK x0 x8 fun e1 => (tree_Names_1.f n e1).bind fun r2 => bif r2 then (some x8)
  else (j3 n (l2 n k) x0 x1 x7 x8))
  else (j1 n )
theorem wb2 (n : Nat) (Kr2 : Q) (x0 : List Int) (x1 : Unit) (x7 : Int) (x8 : Int) (K1 : Q) (X3 : XC) : ev (db2 n X3) (keepSt (Z0 x0 x1 x7 x8) [0, 1, 7, 8]) (E [(0, K1)]) Kr2 =
  (bif (decide (x8 < x7)) then (idxK x0 x8 fun e1 => (tree_Names_1.f n e1).bind fun r2 => bif r2 then (some x8)
  else (ev X3 (Z0 x0 x1 x7 x8) (E [(0, K1)]) (Kb2 Kr2)))
  else (K1 []) : Option R) := by kernel_rfl
theorem l2_ok (n : Nat) (k : Nat) : ∀ (x0 : List Int) (x1 : Unit) (x7 : Int) (x8 : Int), loopEv [0, 1, 7, 8] (fun s K => ev (cb2 n) s (E [(0, (K1 n))]) K) k (Z0 x0 x1 x7 x8) = l2 n k x0 x1 x7 x8 := by
  induction k with
  | zero => intros; rfl
  | succ k ih =>
    intro x0 x1 x7 x8
    exact (wb2 n (fun st => loopEv [0, 1, 7, 8] (fun s K => ev (cb2 n) s (E [(0, (K1 n))]) K) k st) x0 x1 x7 x8 (K1 n) (c3 n)).trans (by simp -implicitDefEqProofs only [l2, s3 n (fun st => loopEv [0, 1, 7, 8] (fun s K => ev (cb2 n) s (E [(0, (K1 n))]) K) k st) (l2 n k) ih, q1_0 n] <;> kernel_rfl)
noncomputable def d (n : Nat) (X1 Y2 : XC) : XC :=
  (.seq (.reg (.op (.mv 4 (.c ⟨.int .i64, ((0 : Int) : Int)⟩)) none <| .nil)) <|
  (.seq (.aft (.seq (.reg (.op (.mv 6 (.t 0)) none <| .op (.len 7 (.t 6) false) none <| .op (.mv 8 (.c ⟨.int .i64, ((0 : Int) : Int)⟩)) none <| .nil)) <|
  (.block 0 (.pre [.keep [0, 1, 7, 8]] (.loop n [0, 1, 7, 8] Y2)))) [.keep []]) X1))
noncomputable abbrev c (n : Nat) : XC := d n (c1 n) (cb2 n)
noncomputable def f (n : Nat) (a0 : List Int) (a1 : Unit) : Option Int :=
  l2 n n a0 a1 (a0.length : Int) (0 : Int)
theorem w (n : Nat) (a0 : List Int) (a1 : Unit) (X1 Y2 : XC) : evFn (d n X1 Y2) rs ps r (a0, a1, ()) =
  (loopEv [0, 1, 7, 8] (fun s K => ev Y2 s (E [(0, (H1 n X1))]) K) n (Z0 a0 a1 (a0.length : Int) (0 : Int)) : Option R) := by kernel_rfl
theorem ok (n : Nat) (a0 : List Int) (a1 : Unit) : evFn (c n) rs ps r (a0, a1, ()) = f n a0 a1 := (w n a0 a1 (c1 n) (cb2 n)).trans (by simp -implicitDefEqProofs only [f, l2_ok n] <;> kernel_rfl)
noncomputable def sp (n : Nat) : FSpec := { f := 67, ps := ps, r := r, run := fun x => f n x.1 x.2.1 }
theorem calls (n : Nat) : (c n).calls = [tree_Names_1.sp n] := by kernel_rfl
theorem fits (n : Nat) : fnB tab hd Try.f67 (c n) rs (sp n).ps (sp n).r = true := by kernel_rfl
theorem sound (n : Nat) : Sound Try.prog (sp n) := by
  refine fnB_sound tabOk eqFacts mixed (fn := Try.f67) (c := c n) (rs := rs) (by kernel_rfl) ?_ (fits n) ?_
  · rw [calls]
    intro s hs
    simp only [List.mem_cons, List.not_mem_nil, or_false] at hs
    rcases hs with rfl
    · exact tree_Names_1.meets n
  · rintro ⟨a0, a1, ⟨⟩⟩ y h
    exact (ok n a0 a1).trans h
theorem meets (n : Nat) : Meets Try.prog (sp n) := (sound n).meets
end slices_IndexFunc
/-! slices.DeleteFunc[[]backwater/api.Fid,backwater/api.Fid] -/
namespace slices_DeleteFunc
abbrev ps : List (Ty × Bool) := [(.slX .U (.int .u32), false), (.fn 57 .unit, false)]
abbrev r : Ty := .slX .U (.int .u32)
abbrev rs : List RV := [.t 4]
abbrev R : Type := (rtOf ps r).den
abbrev Q : Type := St → Option R
abbrev E (l : List (Nat × Q)) : Ks R := ⟨retK rs ps r, l⟩
abbrev Z0 (x0 : Ty.den (.slX .U (.int .u32))) (x5 : Ty.den (.int .i64)) : St := [(0, some ⟨.slX .U (.int .u32), x0⟩), (5, some ⟨.int .i64, x5⟩)]
abbrev Z1 (x0 : Ty.den (.slX .U (.int .u32))) (x1 : Ty.den (.fn 57 .unit)) (x5 : Ty.den (.int .i64)) (x6 : Ty.den (.int .i64)) : St := [(0, some ⟨.slX .U (.int .u32), x0⟩), (1, some ⟨.fn 57 .unit, x1⟩), (5, some ⟨.int .i64, x5⟩), (6, some ⟨.int .i64, x6⟩)]
noncomputable def d1 (n : Nat) : XC :=
  (.seq (.reg (.op (.als 36 0) none <| .op (.mv 37 (.t 5)) none <| .op (.slcT 38 36 (.t 37) 1) none <| .op (.clr 38 ⟨.int .u32, ((0 : Int) : Int)⟩ 4) none <| .nil)) <|
  (.seq (.reg (.op (.take 39 0) none <| .op (.mv 40 (.t 5)) none <| .op (.slcX 41 39 (.t 40) 1) none <| .op (.take 4 41) none <| .nil)) <|
  .ret))
noncomputable abbrev c1 (n : Nat) : XC := d1 n
noncomputable def j1 (n : Nat) (x0 : List Int) (x5 : Int) : Option (List Int) :=
  sliceK x5 (x0.length : Int) x0.length (eqK (x5 + ((x0.length : Int) - x5)) (x0.length : Int) (sliceK 0 x5 (x0.take (x5).toNat ++ List.replicate (((x0.length : Int) - x5)).toNat (0 : Int)).length (some ((x0.take (x5).toNat ++ List.replicate (((x0.length : Int) - x5)).toNat (0 : Int)).take (x5).toNat))))
theorem s1 (n : Nat) (x0 : List Int) (x5 : Int) : ev (c1 n) (Z0 x0 x5) (E []) (retK rs ps r) = j1 n x0 x5 := by kernel_rfl
noncomputable def H1 (n : Nat) (X : XC) : Q := fun st => ghK [.keep [0, 5]] st fun st => ev X st (E []) (retK rs ps r)
noncomputable abbrev K1 (n : Nat) : Q := H1 n (c1 n)
noncomputable def Kb2 (Kr2 : Q) : Q := fun st => ghK [.keep [0, 1, 5, 6]] st Kr2
noncomputable def d3 (n : Nat) : XC :=
  (.aft (.reg (.op (.mv 20 (.t 6)) none <| .op (.bin 21 .add (.t 20) (.c ⟨.int .i64, ((1 : Int) : Int)⟩)) none <| .op (.mv 6 (.t 21)) none <| .nil)) [.keep [0, 1, 5, 6]])
noncomputable abbrev c3 (n : Nat) : XC := d3 n
theorem qb2_0 (Kr2 : Q) (kr2 : (List Int) → Unit → Int → Int → Option (List Int)) (hK2 : ∀ (x0 : List Int) (x1 : Unit) (x5 : Int) (x6 : Int), Kr2 (Z1 x0 x1 x5 x6) = kr2 x0 x1 x5 x6) (x0 : List Int) (x1 : Unit) (x5 : Int) (x6 : Int) : Kb2 Kr2 (Z1 x0 x1 x5 x6) = kr2 x0 x1 x5 x6 := (by kernel_rfl : _ = Kr2 (Z1 x0 x1 x5 x6)).trans (hK2 x0 x1 x5 x6)
noncomputable def j3 (n : Nat) (kr2 : (List Int) → Unit → Int → Int → Option (List Int)) (x0 : List Int) (x1 : Unit) (x5 : Int) (x6 : Int) : Option (List Int) :=
  kr2 x0 x1 x5 (IntKind.i64.wrap (x6 + (1 : Int)))
theorem w3 (n : Nat) (Kr2 : Q) (x0 : List Int) (x1 : Unit) (x5 : Int) (x6 : Int) (K1 : Q) (Kb2 : Q) : ev (d3 n) (Z1 x0 x1 x5 x6) (E [(0, K1)]) Kb2 =
  (Kb2 (Z1 x0 x1 x5 (IntKind.i64.wrap (x6 + (1 : Int)))) : Option R) := by kernel_rfl
theorem s3 (n : Nat) (Kr2 : Q) (kr2 : (List Int) → Unit → Int → Int → Option (List Int)) (hK2 : ∀ (x0 : List Int) (x1 : Unit) (x5 : Int) (x6 : Int), Kr2 (Z1 x0 x1 x5 x6) = kr2 x0 x1 x5 x6) (x0 : List Int) (x1 : Unit) (x5 : Int) (x6 : Int) : ev (c3 n) (Z1 x0 x1 x5 x6) (E [(0, (K1 n))]) (Kb2 Kr2) = j3 n kr2 x0 x1 x5 x6 := (w3 n Kr2 x0 x1 x5 x6 (K1 n) (Kb2 Kr2)).trans (by simp -implicitDefEqProofs only [j3, qb2_0 Kr2 kr2 hK2] <;> kernel_rfl)
noncomputable def H3 (n : Nat) (K1 : Q) (Kb2 : Q) (X : XC) : Q := fun st => ghK [.keep [0, 1, 5, 6]] st fun st => ev X st (E [(0, K1)]) Kb2
noncomputable abbrev K3 (n : Nat) (Kr2 : Q) : Q := H3 n (K1 n) (Kb2 Kr2) (c3 n)
noncomputable def db2 (n : Nat) (X3 : XC) : XC :=
  (.aft (.seq (.seq (.reg (.op (.mv 16 (.t 6)) none <| .op (.bor 17 0) none <| .op (.len 18 (.t 17) false) none <| .op (.bin 19 .lss (.t 16) (.t 18)) none <| .nil)) <|
  (.cond (.t 19)
  .skip
  (.pre [.keep [0, 5]] (.exit 0)))) <|
  (.seq (.aft (.block 1 (.seq (.reg (.op (.bor 22 0) none <| .op (.mv 23 (.t 6)) none <| .op (.idxA 24 (.t 22) (.t 23) 1 0) none <| .op (.ld 25 24 1 false) none <| .op (.mv 7 (.t 25)) none <| .nil)) <|
  (.seq (.reg (.op (.mv 26 (.t 1)) none <| .op (.mv 27 (.t 7)) none <| .op (.callV (some 28) (tree_Names_1.sp n) 26 42 [.v (.t 27)]) none <| .op (.un 29 .not (.t 28)) none <| .nil)) <|
  (.cond (.t 29)
  (.seq (.pre [.keep [0, 1, 5, 6, 7]] (.reg (.op (.als 30 0) none <| .op (.mv 31 (.t 5)) none <| .op (.mv 32 (.t 7)) none <| .op (.idxE 33 (.t 30) (.t 31) 1) none <| .op (.stE 33 (.t 32) 1) none <| .nil))) <|
  (.reg (.op (.mv 34 (.t 5)) none <| .op (.bin 35 .add (.t 34) (.c ⟨.int .i64, ((1 : Int) : Int)⟩)) none <| .op (.mv 5 (.t 35)) none <| .nil)))
  .skip)))) [.keep [0, 1, 5, 6]]) X3)) [.keep [0, 1, 5, 6]])
noncomputable abbrev cb2 (n : Nat) : XC := db2 n (c3 n)
theorem q1_0_r (n : Nat) (X : XC) (x0 : List Int) (x5 : Int) : H1 n X (Z0 x0 x5) = (ev X (Z0 x0 x5) (E []) (retK rs ps r) : Option R) := by kernel_rfl
theorem q1_0 (n : Nat) (x0 : List Int) (x5 : Int) : K1 n (Z0 x0 x5) = j1 n x0 x5 := (q1_0_r n (c1 n) x0 x5).trans (s1 n x0 x5)
noncomputable def l2 (n : Nat) : Nat → (List Int) → Unit → Int → Int → Option (List Int)
  | 0, _, _, _, _ => none
  | k + 1, x0, x1, x5, x6 =>
  bif (decide (x6 < (x0.length : Int))) then (idxK x0 x6 fun e1 => (tree_Names_1.f n e1).bind fun r2 => bif (!r2) then (inK' x5 x0.length (idxK x0 x5 fun e3 => j3 n (l2 n k) (lset x0 x5 e1) x1 (IntKind.i64.wrap (x5 + (1 : Int))) x6))
  else (j3 n (l2 n k) x0 x1 x5 x6))
  else (j1 n x0 x5)
theorem wb2 (n : Nat) (Kr2 : Q) (x0 : List Int) (x1 : Unit) (x5 : Int) (x6 : Int) (K1 : Q) (X3 : XC) : ev (db2 n X3) (keepSt (Z1 x0 x1 x5 x6) [0, 1, 5, 6]) (E [(0, K1)]) Kr2 =
  (bif (decide (x6 < (x0.length : Int))) then (idxK x0 x6 fun e1 => (tree_Names_1.f n e1).bind fun r2 => bif (!r2) then (inK' x5 x0.length (idxK x0 x5 fun e3 => ev X3 (Z1 ((lset x0 x5 e1) : List Int) x1 (IntKind.i64.wrap (x5 + (1 : Int))) x6) (E [(0, K1)]) (Kb2 Kr2)))
  else (ev X3 (Z1 x0 x1 x5 x6) (E [(0, K1)]) (Kb2 Kr2)))
  else (K1 (Z0 x0 x5)) : Option R) := by kernel_rfl
theorem l2_ok (n : Nat) (k : Nat) : ∀ (x0 : List Int) (x1 : Unit) (x5 : Int) (x6 : Int), loopEv [0, 1, 5, 6] (fun s K => ev (cb2 n) s (E [(0, (K1 n))]) K) k (Z1 x0 x1 x5 x6) = l2 n k x0 x1 x5 x6 := by
  induction k with
  | zero => intros; rfl
  | succ k ih =>
    intro x0 x1 x5 x6
    exact (wb2 n (fun st => loopEv [0, 1, 5, 6] (fun s K => ev (cb2 n) s (E [(0, (K1 n))]) K) k st) x0 x1 x5 x6 (K1 n) (c3 n)).trans (by simp -implicitDefEqProofs only [l2, s3 n (fun st => loopEv [0, 1, 5, 6] (fun s K => ev (cb2 n) s (E [(0, (K1 n))]) K) k st) (l2 n k) ih, q1_0 n] <;> kernel_rfl)
noncomputable def d (n : Nat) (X1 Y2 : XC) : XC :=
  (.seq (.reg (.op (.mv 4 (.c ⟨.nil 0, ()⟩)) none <| .nil)) <|
  (.seq (.reg (.op (.bor 8 0) none <| .op (.mv 9 (.t 1)) none <| .op (.call (some 10) (slices_IndexFunc.sp n) [.v (.t 8), .v (.t 9)]) none <| .op (.mv 5 (.t 10)) none <| .nil)) <|
  (.seq (.seq (.reg (.op (.mv 11 (.t 5)) none <| .op (.bin 12 .eql (.t 11) (.c ⟨.int .i64, ((-1 : Int) : Int)⟩)) none <| .nil)) <|
  (.cond (.t 12)
  (.seq (.reg (.op (.take 13 0) none <| .op (.take 4 13) none <| .nil)) <|
  .ret)
  .skip)) <|
  (.seq (.aft (.seq (.reg (.op (.mv 14 (.t 5)) none <| .op (.bin 15 .add (.t 14) (.c ⟨.int .i64, ((1 : Int) : Int)⟩)) none <| .op (.mv 6 (.t 15)) none <| .nil)) <|
  (.block 0 (.pre [.keep [0, 1, 5, 6]] (.loop n [0, 1, 5, 6] Y2)))) [.keep [0, 5]]) X1))))
noncomputable abbrev c (n : Nat) : XC := d n (c1 n) (cb2 n)
noncomputable def f (n : Nat) (a0 : List Int) (a1 : Unit) : Option (List Int) :=
  (slices_IndexFunc.f n a0 a1).bind fun r1 => bif (decide (r1 = (-1 : Int))) then (some a0)
  else (l2 n n a0 a1 r1 (IntKind.i64.wrap (r1 + (1 : Int))))
theorem w (n : Nat) (a0 : List Int) (a1 : Unit) (X1 Y2 : XC) : evFn (d n X1 Y2) rs ps r (a0, a1, ()) =
  ((slices_IndexFunc.f n a0 a1).bind fun r1 => bif (decide (r1 = (-1 : Int))) then (some a0)
  else (loopEv [0, 1, 5, 6] (fun s K => ev Y2 s (E [(0, (H1 n X1))]) K) n (Z1 a0 a1 r1 (IntKind.i64.wrap (r1 + (1 : Int))))) : Option R) := by kernel_rfl
theorem ok (n : Nat) (a0 : List Int) (a1 : Unit) : evFn (c n) rs ps r (a0, a1, ()) = f n a0 a1 := (w n a0 a1 (c1 n) (cb2 n)).trans (by simp -implicitDefEqProofs only [f, l2_ok n] <;> kernel_rfl)
noncomputable def sp (n : Nat) : FSpec := { f := 56, ps := ps, r := r, run := fun x => f n x.1 x.2.1 }
theorem calls (n : Nat) : (c n).calls = [slices_IndexFunc.sp n, tree_Names_1.sp n] := by kernel_rfl
theorem fits (n : Nat) : fnB tab hd Try.f56 (c n) rs (sp n).ps (sp n).r = true := by kernel_rfl
theorem sound (n : Nat) : Sound Try.prog (sp n) := by
  refine fnB_sound tabOk eqFacts mixed (fn := Try.f56) (c := c n) (rs := rs) (by kernel_rfl) ?_ (fits n) ?_
  · rw [calls]
    intro s hs
    simp only [List.mem_cons, List.not_mem_nil, or_false] at hs
    rcases hs with rfl | rfl
    · exact slices_IndexFunc.meets n
    · exact tree_Names_1.meets n
  · rintro ⟨a0, a1, ⟨⟩⟩ y h
    exact (ok n a0 a1).trans h
theorem meets (n : Nat) : Meets Try.prog (sp n) := (sound n).meets
end slices_DeleteFunc
/-! backwater/tree.Names -/
namespace tree_Names
abbrev ps : List (Ty × Bool) := [(TOp, false)]
abbrev r : Ty := .slX .U (.int .u32)
abbrev rs : List RV := [.t 2]
abbrev R : Type := (rtOf ps r).den
abbrev Q : Type := St → Option R
abbrev E (l : List (Nat × Q)) : Ks R := ⟨retK rs ps r, l⟩
noncomputable def d (n : Nat) : XC :=
  (.seq (.reg (.op (.boxv 1 (.t 0)) none <| .op (.mv 2 (.c ⟨.nil 0, ()⟩)) none <| .nil)) <|
  (.seq (.reg (.op (.fa 3 1 1 1) none <| .op (.ld 4 3 1 false) none <| .op (.fa 5 1 2 2) none <| .op (.ld 6 5 1 false) none <| .op (.fa 7 1 4 4) none <| .op (.ld 8 7 1 false) none <| .op (.bsl 9 (.int .u32) [(.t 4), (.t 6), (.t 8)]) none <| .op (.call (some 10) (slices_DeleteFunc.sp n) [.k 9, .v (.c ⟨.fn 57 .unit, (() : Unit)⟩)]) none <| .op (.take 2 10) none <| .nil)) <|
  .ret))
noncomputable abbrev c (n : Nat) : XC := d n
noncomputable def f (n : Nat) (a0 : DOp) : Option (List Int) :=
  (slices_DeleteFunc.f n ([a0.2.1, a0.2.2.1, a0.2.2.2.2.1] : List Int) ()).bind fun r1 => some r1
theorem ok (n : Nat) (a0 : DOp) : evFn (c n) rs ps r (a0, ()) = f n a0 := by kernel_rfl
noncomputable def sp (n : Nat) : FSpec := { f := 43, ps := ps, r := r, run := fun x => f n x.1 }
theorem calls (n : Nat) : (c n).calls = [slices_DeleteFunc.sp n] := by kernel_rfl
theorem fits (n : Nat) : fnB tab hd Try.f43 (c n) rs (sp n).ps (sp n).r = true := by kernel_rfl
theorem sound (n : Nat) : Sound Try.prog (sp n) := by
  refine fnB_sound tabOk eqFacts mixed (fn := Try.f43) (c := c n) (rs := rs) (by kernel_rfl) ?_ (fits n) ?_
  · rw [calls]
    intro s hs
    simp only [List.mem_cons, List.not_mem_nil, or_false] at hs
    rcases hs with rfl
    · exact slices_DeleteFunc.meets n
  · rintro ⟨a0, ⟨⟩⟩ y h
    exact (ok n a0).trans h
theorem meets (n : Nat) : Meets Try.prog (sp n) := (sound n).meets
end tree_Names
/-! slices.Index[[]backwater/api.Fid,backwater/api.Fid] -/
namespace slices_Index
abbrev ps : List (Ty × Bool) := [(.slB .U false (.int .u32), false), (.int .u32, false)]
abbrev r : Ty := .int .i64
abbrev rs : List RV := [.t 4]
abbrev R : Type := (rtOf ps r).den
abbrev Q : Type := St → Option R
abbrev E (l : List (Nat × Q)) : Ks R := ⟨retK rs ps r, l⟩
abbrev Z0 (x0 : Ty.den (.slB .U false (.int .u32))) (x1 : Ty.den (.int .u32)) (x7 : Ty.den (.int .i64)) (x8 : Ty.den (.int .i64)) : St := [(0, some ⟨.slB .U false (.int .u32), x0⟩), (1, some ⟨.int .u32, x1⟩), (7, some ⟨.int .i64, x7⟩), (8, some ⟨.int .i64, x8⟩)]
noncomputable def d1 (n : Nat) : XC :=
  (.seq (.reg (.op (.mv 4 (.c ⟨.int .i64, ((-1 : Int) : Int)⟩)) none <| .nil)) <|
  .ret)
noncomputable abbrev c1 (n : Nat) : XC := d1 n
noncomputable def j1 (n : Nat)  : Option Int :=
  some (-1 : Int)
theorem s1 (n : Nat)  : ev (c1 n) [] (E []) (retK rs ps r) = j1 n  := by kernel_rfl
noncomputable def H1 (n : Nat) (X : XC) : Q := fun st => ghK [.keep []] st fun st => ev X st (E []) (retK rs ps r)
noncomputable abbrev K1 (n : Nat) : Q := H1 n (c1 n)
noncomputable def Kb2 (Kr2 : Q) : Q := fun st => ghK [.keep [0, 1, 7, 8]] st Kr2
noncomputable def d3 (n : Nat) : XC :=
  (.aft (.reg (.op (.bin 18 .add (.t 8) (.c ⟨.int .i64, ((1 : Int) : Int)⟩)) none <| .op (.mv 8 (.t 18)) none <| .nil)) [.keep [0, 1, 7, 8]])
noncomputable abbrev c3 (n : Nat) : XC := d3 n
theorem qb2_0 (Kr2 : Q) (kr2 : (List Int) → Int → Int → Int → Option Int) (hK2 : ∀ (x0 : List Int) (x1 : Int) (x7 : Int) (x8 : Int), Kr2 (Z0 x0 x1 x7 x8) = kr2 x0 x1 x7 x8) (x0 : List Int) (x1 : Int) (x7 : Int) (x8 : Int) : Kb2 Kr2 (Z0 x0 x1 x7 x8) = kr2 x0 x1 x7 x8 := (by kernel_rfl : _ = Kr2 (Z0 x0 x1 x7 x8)).trans (hK2 x0 x1 x7 x8)
noncomputable def j3 (n : Nat) (kr2 : (List Int) → Int → Int → Int → Option Int) (x0 : List Int) (x1 : Int) (x7 : Int) (x8 : Int) : Option Int :=
  kr2 x0 x1 x7 (IntKind.i64.wrap (x8 + (1 : Int)))
theorem w3 (n : Nat) (Kr2 : Q) (x0 : List Int) (x1 : Int) (x7 : Int) (x8 : Int) (K1 : Q) (Kb2 : Q) : ev (d3 n) (Z0 x0 x1 x7 x8) (E [(0, K1)]) Kb2 =
  (Kb2 (Z0 x0 x1 x7 (IntKind.i64.wrap (x8 + (1 : Int)))) : Option R) := by kernel_rfl
theorem s3 (n : Nat) (Kr2 : Q) (kr2 : (List Int) → Int → Int → Int → Option Int) (hK2 : ∀ (x0 : List Int) (x1 : Int) (x7 : Int) (x8 : Int), Kr2 (Z0 x0 x1 x7 x8) = kr2 x0 x1 x7 x8) (x0 : List Int) (x1 : Int) (x7 : Int) (x8 : Int) : ev (c3 n) (Z0 x0 x1 x7 x8) (E [(0, (K1 n))]) (Kb2 Kr2) = j3 n kr2 x0 x1 x7 x8 := (w3 n Kr2 x0 x1 x7 x8 (K1 n) (Kb2 Kr2)).trans (by simp -implicitDefEqProofs only [j3, qb2_0 Kr2 kr2 hK2] <;> kernel_rfl)
noncomputable def H3 (n : Nat) (K1 : Q) (Kb2 : Q) (X : XC) : Q := fun st => ghK [.keep [0, 1, 7, 8]] st fun st => ev X st (E [(0, K1)]) Kb2
noncomputable abbrev K3 (n : Nat) (Kr2 : Q) : Q := H3 n (K1 n) (Kb2 Kr2) (c3 n)
noncomputable def db2 (n : Nat) (X3 : XC) : XC :=
  (.aft (.seq (.reg (.op (.bin 9 .lss (.t 8) (.t 7)) none <| .nil)) <|
  (.seq (.cond (.t 9)
  .skip
  (.pre [.keep []] (.exit 0))) <|
  (.seq (.aft (.block 1 (.seq (.reg (.op (.mv 10 (.t 8)) none <| .op (.mv 5 (.t 10)) none <| .nil)) <|
  (.seq (.reg (.op (.mv 11 (.t 1)) none <| .op (.mv 12 (.t 0)) none <| .op (.mv 13 (.t 5)) none <| .op (.idxA 14 (.t 12) (.t 13) 1 0) none <| .op (.ld 15 14 1 false) none <| .op (.bin 16 .eql (.t 11) (.t 15)) none <| .nil)) <|
  (.cond (.t 16)
  (.seq (.pre [.keep [5]] (.reg (.op (.mv 17 (.t 5)) none <| .op (.mv 4 (.t 17)) none <| .nil))) <|
  .ret)
  .skip)))) [.keep [0, 1, 7, 8]]) X3))) [.keep [0, 1, 7, 8]])
noncomputable abbrev cb2 (n : Nat) : XC := db2 n (c3 n)
theorem q1_0_r (n : Nat) (X : XC)  : H1 n X [] = (ev X [] (E []) (retK rs ps r) : Option R) := by kernel_rfl
theorem q1_0 (n : Nat)  : K1 n [] = j1 n  := (q1_0_r n (c1 n) ).trans (s1 n )
noncomputable def l2 (n : Nat) : Nat → (List Int) → Int → Int → Int → Option Int
  | 0, _, _, _, _ => none
  | k + 1, x0, x1, x7, x8 =>
  bif (decide (x8 < x7)) then (idxK x0 x8 fun e1 => bif (decide (x1 = e1)) then (some x8)
  else (j3 n (l2 n k) x0 x1 x7 x8))
  else (j1 n )
theorem wb2 (n : Nat) (Kr2 : Q) (x0 : List Int) (x1 : Int) (x7 : Int) (x8 : Int) (K1 : Q) (X3 : XC) : ev (db2 n X3) (keepSt (Z0 x0 x1 x7 x8) [0, 1, 7, 8]) (E [(0, K1)]) Kr2 =
  (bif (decide (x8 < x7)) then (idxK x0 x8 fun e1 => bif (decide (x1 = e1)) then (some x8)
  else (ev X3 (Z0 x0 x1 x7 x8) (E [(0, K1)]) (Kb2 Kr2)))
  else (K1 []) : Option R) := by kernel_rfl
theorem l2_ok (n : Nat) (k : Nat) : ∀ (x0 : List Int) (x1 : Int) (x7 : Int) (x8 : Int), loopEv [0, 1, 7, 8] (fun s K => ev (cb2 n) s (E [(0, (K1 n))]) K) k (Z0 x0 x1 x7 x8) = l2 n k x0 x1 x7 x8 := by
  induction k with
  | zero => intros; rfl
  | succ k ih =>
    intro x0 x1 x7 x8
    exact (wb2 n (fun st => loopEv [0, 1, 7, 8] (fun s K => ev (cb2 n) s (E [(0, (K1 n))]) K) k st) x0 x1 x7 x8 (K1 n) (c3 n)).trans (by simp -implicitDefEqProofs only [l2, s3 n (fun st => loopEv [0, 1, 7, 8] (fun s K => ev (cb2 n) s (E [(0, (K1 n))]) K) k st) (l2 n k) ih, q1_0 n] <;> kernel_rfl)
noncomputable def d (n : Nat) (X1 Y2 : XC) : XC :=
  (.seq (.reg (.op (.mv 4 (.c ⟨.int .i64, ((0 : Int) : Int)⟩)) none <| .nil)) <|
  (.seq (.aft (.seq (.reg (.op (.mv 6 (.t 0)) none <| .op (.len 7 (.t 6) false) none <| .op (.mv 8 (.c ⟨.int .i64, ((0 : Int) : Int)⟩)) none <| .nil)) <|
  (.block 0 (.pre [.keep [0, 1, 7, 8]] (.loop n [0, 1, 7, 8] Y2)))) [.keep []]) X1))
noncomputable abbrev c (n : Nat) : XC := d n (c1 n) (cb2 n)
noncomputable def f (n : Nat) (a0 : List Int) (a1 : Int) : Option Int :=
  l2 n n a0 a1 (a0.length : Int) (0 : Int)
theorem w (n : Nat) (a0 : List Int) (a1 : Int) (X1 Y2 : XC) : evFn (d n X1 Y2) rs ps r (a0, a1, ()) =
  (loopEv [0, 1, 7, 8] (fun s K => ev Y2 s (E [(0, (H1 n X1))]) K) n (Z0 a0 a1 (a0.length : Int) (0 : Int)) : Option R) := by kernel_rfl
theorem ok (n : Nat) (a0 : List Int) (a1 : Int) : evFn (c n) rs ps r (a0, a1, ()) = f n a0 a1 := (w n a0 a1 (c1 n) (cb2 n)).trans (by simp -implicitDefEqProofs only [f, l2_ok n] <;> kernel_rfl)
noncomputable def sp (n : Nat) : FSpec := { f := 55, ps := ps, r := r, run := fun x => f n x.1 x.2.1 }
theorem calls (n : Nat) : (c n).calls = [] := by kernel_rfl
theorem fits (n : Nat) : fnB tab hd Try.f55 (c n) rs (sp n).ps (sp n).r = true := by kernel_rfl
theorem sound (n : Nat) : Sound Try.prog (sp n) := by
  refine fnB_sound tabOk eqFacts mixed (fn := Try.f55) (c := c n) (rs := rs) (by kernel_rfl) ?_ (fits n) ?_
  · rw [calls]
    intro s hs; cases hs
  · rintro ⟨a0, a1, ⟨⟩⟩ y h
    exact (ok n a0 a1).trans h
theorem meets (n : Nat) : Meets Try.prog (sp n) := (sound n).meets
end slices_Index
/-! slices.Contains[[]backwater/api.Fid,backwater/api.Fid] -/
namespace slices_Contains
abbrev ps : List (Ty × Bool) := [(.slB .U false (.int .u32), false), (.int .u32, false)]
abbrev r : Ty := .bool
abbrev rs : List RV := [.t 4]
abbrev R : Type := (rtOf ps r).den
abbrev Q : Type := St → Option R
abbrev E (l : List (Nat × Q)) : Ks R := ⟨retK rs ps r, l⟩
noncomputable def d (n : Nat) : XC :=
  (.seq (.reg (.op (.mv 4 (.c ⟨.bool, (false : Bool)⟩)) none <| .nil)) <|
  (.seq (.reg (.op (.mv 5 (.t 0)) none <| .op (.mv 6 (.t 1)) none <| .op (.call (some 7) (slices_Index.sp n) [.v (.t 5), .v (.t 6)]) none <| .op (.bin 8 .geq (.t 7) (.c ⟨.int .i64, ((0 : Int) : Int)⟩)) none <| .op (.mv 4 (.t 8)) none <| .nil)) <|
  .ret))
noncomputable abbrev c (n : Nat) : XC := d n
noncomputable def f (n : Nat) (a0 : List Int) (a1 : Int) : Option Bool :=
  (slices_Index.f n a0 a1).bind fun r1 => some (decide ((0 : Int) ≤ r1))
theorem ok (n : Nat) (a0 : List Int) (a1 : Int) : evFn (c n) rs ps r (a0, a1, ()) = f n a0 a1 := by kernel_rfl
noncomputable def sp (n : Nat) : FSpec := { f := 42, ps := ps, r := r, run := fun x => f n x.1 x.2.1 }
theorem calls (n : Nat) : (c n).calls = [slices_Index.sp n] := by kernel_rfl
theorem fits (n : Nat) : fnB tab hd Try.f42 (c n) rs (sp n).ps (sp n).r = true := by kernel_rfl
theorem sound (n : Nat) : Sound Try.prog (sp n) := by
  refine fnB_sound tabOk eqFacts mixed (fn := Try.f42) (c := c n) (rs := rs) (by kernel_rfl) ?_ (fits n) ?_
  · rw [calls]
    intro s hs
    simp only [List.mem_cons, List.not_mem_nil, or_false] at hs
    rcases hs with rfl
    · exact slices_Index.meets n
  · rintro ⟨a0, a1, ⟨⟩⟩ y h
    exact (ok n a0 a1).trans h
theorem meets (n : Nat) : Meets Try.prog (sp n) := (sound n).meets
end slices_Contains
/-! backwater/cml.Touches -/
namespace cml_Touches
abbrev ps : List (Ty × Bool) := [(TRecord, false), (.int .u32, false)]
abbrev r : Ty := .bool
abbrev rs : List RV := [.t 4]
abbrev R : Type := (rtOf ps r).den
abbrev Q : Type := St → Option R
abbrev E (l : List (Nat × Q)) : Ks R := ⟨retK rs ps r, l⟩
noncomputable def d (n : Nat) : XC :=
  (.seq (.reg (.op (.boxv 2 (.t 0)) none <| .op (.mv 4 (.c ⟨.bool, (false : Bool)⟩)) none <| .nil)) <|
  (.seq (.reg (.op (.fa 5 2 0 0) none <| .op (.ld 6 5 8 true) none <| .op (.call (some 7) (tree_Names.sp n) [.v (.t 6)]) none <| .op (.mv 8 (.t 1)) none <| .op (.call (some 9) (slices_Contains.sp n) [.v (.t 7), .v (.t 8)]) none <| .op (.mv 4 (.t 9)) none <| .nil)) <|
  .ret))
noncomputable abbrev c (n : Nat) : XC := d n
noncomputable def f (n : Nat) (a0 : DRecord) (a1 : Int) : Option Bool :=
  (tree_Names.f n (a0.1.1, a0.1.2.1, a0.1.2.2.1, a0.1.2.2.2.1, a0.1.2.2.2.2.1, a0.1.2.2.2.2.2.1, a0.1.2.2.2.2.2.2.1, a0.1.2.2.2.2.2.2.2.1, a0.1.2.2.2.2.2.2.2.2)).bind fun r1 => (slices_Contains.f n r1 a1).bind fun r2 => some r2
theorem ok (n : Nat) (a0 : DRecord) (a1 : Int) : evFn (c n) rs ps r (a0, a1, ()) = f n a0 a1 := by kernel_rfl
noncomputable def sp (n : Nat) : FSpec := { f := 26, ps := ps, r := r, run := fun x => f n x.1 x.2.1 }
theorem calls (n : Nat) : (c n).calls = [tree_Names.sp n, slices_Contains.sp n] := by kernel_rfl
theorem fits (n : Nat) : fnB tab hd Try.f26 (c n) rs (sp n).ps (sp n).r = true := by kernel_rfl
theorem sound (n : Nat) : Sound Try.prog (sp n) := by
  refine fnB_sound tabOk eqFacts mixed (fn := Try.f26) (c := c n) (rs := rs) (by kernel_rfl) ?_ (fits n) ?_
  · rw [calls]
    intro s hs
    simp only [List.mem_cons, List.not_mem_nil, or_false] at hs
    rcases hs with rfl | rfl
    · exact tree_Names.meets n
    · exact slices_Contains.meets n
  · rintro ⟨a0, a1, ⟨⟩⟩ y h
    exact (ok n a0 a1).trans h
theorem meets (n : Nat) : Meets Try.prog (sp n) := (sound n).meets
end cml_Touches
/-! backwater/cml.names -/
namespace cml_names
abbrev ps : List (Ty × Bool) := [(TRecord, false), (.int .u32, false), (.str, false)]
abbrev r : Ty := .bool
abbrev rs : List RV := [.t 6]
abbrev R : Type := (rtOf ps r).den
abbrev Q : Type := St → Option R
abbrev E (l : List (Nat × Q)) : Ks R := ⟨retK rs ps r, l⟩
noncomputable def d (n : Nat) : XC :=
  (.seq (.reg (.op (.boxv 3 (.t 0)) none <| .op (.mv 6 (.c ⟨.bool, (false : Bool)⟩)) none <| .nil)) <|
  (.seq (.reg (.op (.fa 8 3 0 0) none <| .op (.ld 9 8 8 true) none <| .op (.alloc 7 ⟨TOp, (((0 : Int), (0 : Int), (0 : Int), ([] : List Int), (0 : Int), ([] : List Int), (0 : Int), ([] : List Int), ()) : DOp)⟩) none <| .op (.st 7 (.t 9) 8) none <| .nil)) <|
  (.seq (.reg (.op (.fa 10 7 2 2) none <| .op (.ld 11 10 1 false) none <| .op (.mv 12 (.t 1)) none <| .op (.bin 13 .eql (.t 11) (.t 12)) none <| .op (.mv 14 (.t 13)) none <| .grp 14 true (.op (.fa 15 7 3 3) (some ([7, 14, 15], [15])) <| .op (.ld 16 15 1 false) (some ([7, 14, 15, 16], [16])) <| .op (.mv 17 (.t 2)) (some ([2, 14, 17], [17])) <| .op (.bin 18 .eql (.t 16) (.t 17)) (some ([14, 16, 17, 18], [18])) <| .nil) 18 19 [15, 16, 17, 18] <| .op (.mv 20 (.t 19)) none <| .grp 20 false (.op (.fa 21 7 4 4) (some ([7, 20, 21], [21])) <| .op (.ld 22 21 1 false) (some ([7, 20, 21, 22], [22])) <| .op (.mv 23 (.t 1)) (some ([1, 20, 23], [23])) <| .op (.bin 24 .eql (.t 22) (.t 23)) (some ([20, 22, 23, 24], [24])) <| .op (.mv 25 (.t 24)) (some ([20, 24, 25], [25])) <| .grp 25 true (.op (.fa 26 7 5 5) (some ([7, 25, 26], [26])) <| .op (.ld 27 26 1 false) (some ([7, 25, 26, 27], [27])) <| .op (.mv 28 (.t 2)) (some ([2, 25, 28], [28])) <| .op (.bin 29 .eql (.t 27) (.t 28)) (some ([25, 27, 28, 29], [29])) <| .nil) 29 30 [26, 27, 28, 29] <| .nil) 30 31 [21, 22, 23, 24, 25, 26, 27, 28, 29, 30] <| .op (.mv 6 (.t 31)) none <| .nil)) <|
  .ret)))
noncomputable abbrev c (n : Nat) : XC := d n
noncomputable def f (n : Nat) (a0 : DRecord) (a1 : Int) (a2 : List Int) : Option Bool :=
  (bif (decide (a0.1.2.2.1 = a1)) then (some (decide (a0.1.2.2.2.1 = a2))) else some false).bind fun g1 =>
  (bif g1 then some true else ((bif (decide (a0.1.2.2.2.2.1 = a1)) then (some (decide (a0.1.2.2.2.2.2.1 = a2))) else some false).bind fun g3 =>
  some g3)).bind fun g2 =>
  some g2
theorem ok (n : Nat) (a0 : DRecord) (a1 : Int) (a2 : List Int) : evFn (c n) rs ps r (a0, a1, a2, ()) = f n a0 a1 a2 := by kernel_rfl
noncomputable def sp (n : Nat) : FSpec := { f := 46, ps := ps, r := r, run := fun x => f n x.1 x.2.1 x.2.2.1 }
theorem calls (n : Nat) : (c n).calls = [] := by kernel_rfl
theorem fits (n : Nat) : fnB tab hd Try.f46 (c n) rs (sp n).ps (sp n).r = true := by kernel_rfl
theorem sound (n : Nat) : Sound Try.prog (sp n) := by
  refine fnB_sound tabOk eqFacts mixed (fn := Try.f46) (c := c n) (rs := rs) (by kernel_rfl) ?_ (fits n) ?_
  · rw [calls]
    intro s hs; cases hs
  · rintro ⟨a0, a1, a2, ⟨⟩⟩ y h
    exact (ok n a0 a1 a2).trans h
theorem meets (n : Nat) : Meets Try.prog (sp n) := (sound n).meets
end cml_names
/-! backwater/cml.pair -/
namespace cml_pair
abbrev ps : List (Ty × Bool) := [(.slB .U false TRecord, false)]
abbrev r : Ty := .tup (.pair (.int .i64) (.pair (.int .i64) (.pair .bool .unit)))
abbrev rs : List RV := [.t 2, .t 3, .t 4]
abbrev R : Type := (rtOf ps r).den
abbrev Q : Type := St → Option R
abbrev E (l : List (Nat × Q)) : Ks R := ⟨retK rs ps r, l⟩
abbrev Z0 (x0 : Ty.den (.slB .U false TRecord)) (x13 : Ty.den (.int .i64)) (x14 : Ty.den (.int .i64)) : St := [(0, some ⟨.slB .U false TRecord, x0⟩), (13, some ⟨.int .i64, x13⟩), (14, some ⟨.int .i64, x14⟩)]
abbrev Z1 (x0 : Ty.den (.slB .U false TRecord)) (x5 : Ty.den (.int .i64)) (x6 : Ty.den (.box TOp)) (x7 : Ty.den (.int .u8)) (x8 : Ty.den (.int .i64)) (x13 : Ty.den (.int .i64)) (x14 : Ty.den (.int .i64)) : St := [(0, some ⟨.slB .U false TRecord, x0⟩), (5, some ⟨.int .i64, x5⟩), (6, some ⟨.box TOp, x6⟩), (7, some ⟨.int .u8, x7⟩), (8, some ⟨.int .i64, x8⟩), (13, some ⟨.int .i64, x13⟩), (14, some ⟨.int .i64, x14⟩)]
noncomputable def d1 (n : Nat) : XC :=
  (.seq (.reg (.op (.mv 2 (.c ⟨.int .i64, ((0 : Int) : Int)⟩)) none <| .op (.mv 3 (.c ⟨.int .i64, ((0 : Int) : Int)⟩)) none <| .op (.mv 4 (.c ⟨.bool, (false : Bool)⟩)) none <| .nil)) <|
  .ret)
noncomputable abbrev c1 (n : Nat) : XC := d1 n
noncomputable def j1 (n : Nat)  : Option (Int × Int × Bool × Unit) :=
  some ((0 : Int), (0 : Int), false, ())
theorem s1 (n : Nat)  : ev (c1 n) [] (E []) (retK rs ps r) = j1 n  := by kernel_rfl
noncomputable def H1 (n : Nat) (X : XC) : Q := fun st => ghK [.keep []] st fun st => ev X st (E []) (retK rs ps r)
noncomputable abbrev K1 (n : Nat) : Q := H1 n (c1 n)
noncomputable def Kb2 (Kr2 : Q) : Q := fun st => ghK [.keep [0, 13, 14]] st Kr2
noncomputable def d3 (n : Nat) : XC :=
  (.aft (.reg (.op (.bin 97 .add (.t 14) (.c ⟨.int .i64, ((1 : Int) : Int)⟩)) none <| .op (.mv 14 (.t 97)) none <| .nil)) [.keep [0, 13, 14]])
noncomputable abbrev c3 (n : Nat) : XC := d3 n
theorem qb2_0 (Kr2 : Q) (kr2 : (List DRecord) → Int → Int → Option (Int × Int × Bool × Unit)) (hK2 : ∀ (x0 : List DRecord) (x13 : Int) (x14 : Int), Kr2 (Z0 x0 x13 x14) = kr2 x0 x13 x14) (x0 : List DRecord) (x13 : Int) (x14 : Int) : Kb2 Kr2 (Z0 x0 x13 x14) = kr2 x0 x13 x14 := (by kernel_rfl : _ = Kr2 (Z0 x0 x13 x14)).trans (hK2 x0 x13 x14)
noncomputable def j3 (n : Nat) (kr2 : (List DRecord) → Int → Int → Option (Int × Int × Bool × Unit)) (x0 : List DRecord) (x13 : Int) (x14 : Int) : Option (Int × Int × Bool × Unit) :=
  kr2 x0 x13 (IntKind.i64.wrap (x14 + (1 : Int)))
theorem w3 (n : Nat) (Kr2 : Q) (x0 : List DRecord) (x13 : Int) (x14 : Int) (K1 : Q) (Kb2 : Q) : ev (d3 n) (Z0 x0 x13 x14) (E [(0, K1)]) Kb2 =
  (Kb2 (Z0 x0 x13 (IntKind.i64.wrap (x14 + (1 : Int)))) : Option R) := by kernel_rfl
theorem s3 (n : Nat) (Kr2 : Q) (kr2 : (List DRecord) → Int → Int → Option (Int × Int × Bool × Unit)) (hK2 : ∀ (x0 : List DRecord) (x13 : Int) (x14 : Int), Kr2 (Z0 x0 x13 x14) = kr2 x0 x13 x14) (x0 : List DRecord) (x13 : Int) (x14 : Int) : ev (c3 n) (Z0 x0 x13 x14) (E [(0, (K1 n))]) (Kb2 Kr2) = j3 n kr2 x0 x13 x14 := (w3 n Kr2 x0 x13 x14 (K1 n) (Kb2 Kr2)).trans (by simp -implicitDefEqProofs only [j3, qb2_0 Kr2 kr2 hK2] <;> kernel_rfl)
noncomputable def H3 (n : Nat) (K1 : Q) (Kb2 : Q) (X : XC) : Q := fun st => ghK [.keep [0, 13, 14]] st fun st => ev X st (E [(0, K1)]) Kb2
noncomputable abbrev K3 (n : Nat) (Kr2 : Q) : Q := H3 n (K1 n) (Kb2 Kr2) (c3 n)
noncomputable def Kb4 (Kr4 : Q) : Q := fun st => ghK [.keep [0, 5, 6, 7, 8, 13, 14]] st Kr4
noncomputable def d5 (n : Nat) : XC :=
  (.aft (.reg (.op (.mv 33 (.t 8)) none <| .op (.bin 34 .add (.t 33) (.c ⟨.int .i64, ((1 : Int) : Int)⟩)) none <| .op (.mv 8 (.t 34)) none <| .nil)) [.keep [0, 5, 6, 7, 8, 13, 14]])
noncomputable abbrev c5 (n : Nat) : XC := d5 n
theorem qb4_0 (Kr4 : Q) (kr4 : (List DRecord) → Int → DOp → Int → Int → Int → Int → Option (Int × Int × Bool × Unit)) (hK4 : ∀ (x0 : List DRecord) (x5 : Int) (x6 : DOp) (x7 : Int) (x8 : Int) (x13 : Int) (x14 : Int), Kr4 (Z1 x0 x5 x6 x7 x8 x13 x14) = kr4 x0 x5 x6 x7 x8 x13 x14) (x0 : List DRecord) (x5 : Int) (x6 : DOp) (x7 : Int) (x8 : Int) (x13 : Int) (x14 : Int) : Kb4 Kr4 (Z1 x0 x5 x6 x7 x8 x13 x14) = kr4 x0 x5 (x6.1, x6.2.1, x6.2.2.1, x6.2.2.2.1, x6.2.2.2.2.1, x6.2.2.2.2.2.1, x6.2.2.2.2.2.2.1, x6.2.2.2.2.2.2.2.1, x6.2.2.2.2.2.2.2.2) x7 x8 x13 x14 := (by kernel_rfl : _ = Kr4 (Z1 x0 x5 ((x6.1, x6.2.1, x6.2.2.1, x6.2.2.2.1, x6.2.2.2.2.1, x6.2.2.2.2.2.1, x6.2.2.2.2.2.2.1, x6.2.2.2.2.2.2.2.1, x6.2.2.2.2.2.2.2.2) : DOp) x7 x8 x13 x14)).trans (hK4 x0 x5 (x6.1, x6.2.1, x6.2.2.1, x6.2.2.2.1, x6.2.2.2.2.1, x6.2.2.2.2.2.1, x6.2.2.2.2.2.2.1, x6.2.2.2.2.2.2.2.1, x6.2.2.2.2.2.2.2.2) x7 x8 x13 x14)
noncomputable def j5 (n : Nat) (kr2 : (List DRecord) → Int → Int → Option (Int × Int × Bool × Unit)) (kr4 : (List DRecord) → Int → DOp → Int → Int → Int → Int → Option (Int × Int × Bool × Unit)) (x0 : List DRecord) (x5 : Int) (x6 : DOp) (x7 : Int) (x8 : Int) (x13 : Int) (x14 : Int) : Option (Int × Int × Bool × Unit) :=
  kr4 x0 x5 (x6.1, x6.2.1, x6.2.2.1, x6.2.2.2.1, x6.2.2.2.2.1, x6.2.2.2.2.2.1, x6.2.2.2.2.2.2.1, x6.2.2.2.2.2.2.2.1, x6.2.2.2.2.2.2.2.2) x7 (IntKind.i64.wrap (x8 + (1 : Int))) x13 x14
theorem w5 (n : Nat) (Kr2 : Q) (Kr4 : Q) (x0 : List DRecord) (x5 : Int) (x6 : DOp) (x7 : Int) (x8 : Int) (x13 : Int) (x14 : Int) (K3 : Q) (K1 : Q) (Kb4 : Q) : ev (d5 n) (Z1 x0 x5 x6 x7 x8 x13 x14) (E [(2, K3), (1, K3), (0, K1)]) Kb4 =
  (Kb4 (Z1 x0 x5 x6 x7 (IntKind.i64.wrap (x8 + (1 : Int))) x13 x14) : Option R) := by kernel_rfl
theorem s5 (n : Nat) (Kr2 : Q) (Kr4 : Q) (kr2 : (List DRecord) → Int → Int → Option (Int × Int × Bool × Unit)) (kr4 : (List DRecord) → Int → DOp → Int → Int → Int → Int → Option (Int × Int × Bool × Unit)) (hK2 : ∀ (x0 : List DRecord) (x13 : Int) (x14 : Int), Kr2 (Z0 x0 x13 x14) = kr2 x0 x13 x14) (hK4 : ∀ (x0 : List DRecord) (x5 : Int) (x6 : DOp) (x7 : Int) (x8 : Int) (x13 : Int) (x14 : Int), Kr4 (Z1 x0 x5 x6 x7 x8 x13 x14) = kr4 x0 x5 x6 x7 x8 x13 x14) (x0 : List DRecord) (x5 : Int) (x6 : DOp) (x7 : Int) (x8 : Int) (x13 : Int) (x14 : Int) : ev (c5 n) (Z1 x0 x5 x6 x7 x8 x13 x14) (E [(2, (K3 n Kr2)), (1, (K3 n Kr2)), (0, (K1 n))]) (Kb4 Kr4) = j5 n kr2 kr4 x0 x5 x6 x7 x8 x13 x14 := (w5 n Kr2 Kr4 x0 x5 x6 x7 x8 x13 x14 (K3 n Kr2) (K1 n) (Kb4 Kr4)).trans (by simp -implicitDefEqProofs only [j5, qb4_0 Kr4 kr4 hK4] <;> kernel_rfl)
noncomputable def H5 (n : Nat) (K3 : Q) (K1 : Q) (Kb4 : Q) (X : XC) : Q := fun st => ghK [.keep [0, 5, 6, 7, 8, 13, 14]] st fun st => ev X st (E [(2, K3), (1, K3), (0, K1)]) Kb4
noncomputable abbrev K5 (n : Nat) (Kr2 : Q) (Kr4 : Q) : Q := H5 n (K3 n Kr2) (K1 n) (Kb4 Kr4) (c5 n)
noncomputable def db4 (n : Nat) (X5 : XC) : XC :=
  (.aft (.seq (.seq (.reg (.op (.mv 29 (.t 8)) none <| .op (.mv 30 (.t 0)) none <| .op (.len 31 (.t 30) false) none <| .op (.bin 32 .lss (.t 29) (.t 31)) none <| .nil)) <|
  (.cond (.t 32)
  .skip
  (.pre [.keep [0, 13, 14]] (.exit 2)))) <|
  (.seq (.aft (.block 3 (.seq (.reg (.op (.mv 35 (.t 0)) none <| .op (.mv 36 (.t 8)) none <| .op (.idxA 37 (.t 35) (.t 36) 9 0) none <| .op (.fa 38 37 0 0) none <| .op (.ld 39 38 8 true) none <| .op (.alloc 9 ⟨TOp, (((0 : Int), (0 : Int), (0 : Int), ([] : List Int), (0 : Int), ([] : List Int), (0 : Int), ([] : List Int), ()) : DOp)⟩) none <| .op (.st 9 (.t 39) 8) none <| .nil)) <|
  (.seq (.seq (.reg (.op (.fa 40 9 0 0) none <| .op (.ld 41 40 1 false) none <| .op (.mv 42 (.t 7)) none <| .op (.bin 43 .eql (.t 41) (.t 42)) none <| .op (.mv 44 (.t 43)) none <| .grp 44 true (.op (.fa 45 9 2 2) (some ([9, 44, 45], [45])) <| .op (.ld 46 45 1 false) (some ([9, 44, 45, 46], [46])) <| .op (.fa 47 6 2 2) (some ([6, 44, 47], [47])) <| .op (.ld 48 47 1 false) (some ([6, 44, 47, 48], [48])) <| .op (.bin 49 .eql (.t 46) (.t 48)) (some ([44, 46, 48, 49], [49])) <| .nil) 49 50 [45, 46, 47, 48, 49] <| .op (.mv 51 (.t 50)) none <| .grp 51 true (.op (.fa 52 9 3 3) (some ([9, 51, 52], [52])) <| .op (.ld 53 52 1 false) (some ([9, 51, 52, 53], [53])) <| .op (.fa 54 6 3 3) (some ([6, 51, 54], [54])) <| .op (.ld 55 54 1 false) (some ([6, 51, 54, 55], [55])) <| .op (.bin 56 .eql (.t 53) (.t 55)) (some ([51, 53, 55, 56], [56])) <| .nil) 56 57 [52, 53, 54, 55, 56] <| .nil)) <|
  (.cond (.t 57)
  (.seq (.pre [.keep [5, 8]] (.reg (.op (.mv 58 (.t 5)) none <| .op (.mv 59 (.t 8)) none <| .op (.mv 2 (.t 58)) none <| .op (.mv 3 (.t 59)) none <| .op (.mv 4 (.c ⟨.bool, (true : Bool)⟩)) none <| .nil))) <|
  .ret)
  .skip)) <|
  (.seq (.pre [.keep [0, 5, 6, 7, 8, 13, 14]] (.reg (.op (.mv 61 (.t 0)) none <| .op (.mv 62 (.t 8)) none <| .op (.idxA 63 (.t 61) (.t 62) 9 0) none <| .op (.ld 64 63 9 true) none <| .op (.call (some 65) (cml_of.sp n) [.v (.t 64)]) none <| .op (.take 60 65) none <| .op (.ext 66 60 0) none <| .op (.ext 67 60 1) none <| .op (.alloc 10 ⟨Tcontent, (((0 : Int), (0 : Int), ()) : Dcontent)⟩) none <| .op (.st 10 (.t 66) 2) none <| .op (.mv 11 (.t 67)) none <| .nil))) <|
  (.seq (.regD (.op (.mv 68 (.t 0)) (some ([0, 68], [68])) <| .op (.mv 69 (.t 8)) (some ([8, 69], [69])) <| .op (.idxA 70 (.t 68) (.t 69) 9 0) (some ([68, 69, 70], [70])) <| .op (.ld 71 70 9 true) (some ([70, 71], [71])) <| .op (.fa 72 6 1 1) (some ([6, 72], [72])) <| .op (.ld 73 72 1 false) (some ([6, 72, 73], [73])) <| .op (.call (some 74) (cml_Touches.sp n) [.v (.t 71), .v (.t 73)]) (some ([71, 73, 74], [74])) <| .op (.mv 75 (.t 74)) (some ([74, 75], [75])) <| .grp 75 false (.op (.mv 76 (.t 0)) (some ([0, 75, 76], [76])) <| .op (.mv 77 (.t 8)) (some ([8, 75, 77], [77])) <| .op (.idxA 78 (.t 76) (.t 77) 9 0) (some ([75, 76, 77, 78], [78])) <| .op (.ld 79 78 9 true) (some ([75, 78, 79], [79])) <| .op (.fa 80 6 2 2) (some ([6, 75, 80], [80])) <| .op (.ld 81 80 1 false) (some ([6, 75, 80, 81], [81])) <| .op (.fa 82 6 3 3) (some ([6, 75, 82], [82])) <| .op (.ld 83 82 1 false) (some ([6, 75, 82, 83], [83])) <| .op (.call (some 84) (cml_names.sp n) [.v (.t 79), .v (.t 81), .v (.t 83)]) (some ([75, 79, 81, 83, 84], [84])) <| .nil) 84 85 [76, 77, 78, 79, 80, 81, 82, 83, 84] <| .op (.mv 86 (.t 85)) (some ([85, 86], [86])) <| .grp 86 true (.op (.mv 87 (.t 11)) (some ([11, 86, 87], [87])) <| .op (.mv 88 (.t 87)) (some ([86, 87, 88], [88])) <| .grp 88 true (.op (.fa 89 10 1 1) (some ([10, 88, 89], [89])) <| .op (.ld 90 89 1 false) (some ([10, 88, 89, 90], [90])) <| .op (.fa 91 6 1 1) (some ([6, 88, 91], [91])) <| .op (.ld 92 91 1 false) (some ([6, 88, 91, 92], [92])) <| .op (.bin 93 .eql (.t 90) (.t 92)) (some ([88, 90, 92, 93], [93])) <| .nil) 93 94 [89, 90, 91, 92, 93] <| .op (.un 95 .not (.t 94)) (some ([86, 94, 95], [95])) <| .nil) 95 96 [87, 88, 89, 90, 91, 92, 93, 94, 95] <| .nil)) <|
  (.cond (.t 96)
  (.pre [.keep [0, 13, 14]] (.exit 1))
  .skip)))))) [.keep [0, 5, 6, 7, 8, 13, 14]]) X5)) [.keep [0, 5, 6, 7, 8, 13, 14]])
noncomputable abbrev cb4 (n : Nat) : XC := db4 n (c5 n)
theorem q3_0_r (n : Nat) (Kr2 : Q) (K1 : Q) (Kb2 : Q) (X : XC) (x0 : List DRecord) (x13 : Int) (x14 : Int) : H3 n K1 Kb2 X (Z0 x0 x13 x14) = (ev X (Z0 x0 x13 x14) (E [(0, K1)]) Kb2 : Option R) := by kernel_rfl
theorem q3_0 (n : Nat) (Kr2 : Q) (kr2 : (List DRecord) → Int → Int → Option (Int × Int × Bool × Unit)) (hK2 : ∀ (x0 : List DRecord) (x13 : Int) (x14 : Int), Kr2 (Z0 x0 x13 x14) = kr2 x0 x13 x14) (x0 : List DRecord) (x13 : Int) (x14 : Int) : K3 n Kr2 (Z0 x0 x13 x14) = j3 n kr2 x0 x13 x14 := (q3_0_r n Kr2 (K1 n) (Kb2 Kr2) (c3 n) x0 x13 x14).trans (s3 n Kr2 kr2 hK2 x0 x13 x14)
noncomputable def l4 (n : Nat) (kr2 : (List DRecord) → Int → Int → Option (Int × Int × Bool × Unit)) : Nat → (List DRecord) → Int → DOp → Int → Int → Int → Int → Option (Int × Int × Bool × Unit)
  | 0, _, _, _, _, _, _, _ => none
  | k + 1, x0, x5, x6, x7, x8, x13, x14 =>
  bif (decide (x8 < (x0.length : Int))) then (idxK x0 x8 fun e1 => (bif (decide (e1.1.1 = x7)) then (some (decide (e1.1.2.2.1 = x6.2.2.1))) else some false).bind fun g2 =>
  (bif g2 then (some (decide (e1.1.2.2.2.1 = x6.2.2.2.1))) else some false).bind fun g3 =>
  bif g3 then (some (x5, x8, true, ()))
  else (idxK x0 x8 fun e4 => (cml_of.f n ((e4.1.1, e4.1.2.1, e4.1.2.2.1, e4.1.2.2.2.1, e4.1.2.2.2.2.1, e4.1.2.2.2.2.2.1, e4.1.2.2.2.2.2.2.1, e4.1.2.2.2.2.2.2.2.1, e4.1.2.2.2.2.2.2.2.2), e4.2.1, e4.2.2)).bind fun r5 => idxK x0 x8 fun e6 => (cml_Touches.f n ((e6.1.1, e6.1.2.1, e6.1.2.2.1, e6.1.2.2.2.1, e6.1.2.2.2.2.1, e6.1.2.2.2.2.2.1, e6.1.2.2.2.2.2.2.1, e6.1.2.2.2.2.2.2.2.1, e6.1.2.2.2.2.2.2.2.2), e6.2.1, e6.2.2) x6.2.1).bind fun r7 => (bif r7 then some true else (idxK x0 x8 fun e9 => (cml_names.f n ((e9.1.1, e9.1.2.1, e9.1.2.2.1, e9.1.2.2.2.1, e9.1.2.2.2.2.1, e9.1.2.2.2.2.2.1, e9.1.2.2.2.2.2.2.1, e9.1.2.2.2.2.2.2.2.1, e9.1.2.2.2.2.2.2.2.2), e9.2.1, e9.2.2) x6.2.2.1 x6.2.2.2.1).bind fun r10 => some r10)).bind fun g8 =>
  (bif g8 then ((bif r5.2.1 then (some (decide (r5.1.2.1 = x6.2.1))) else some false).bind fun g12 =>
  some (!g12)) else some false).bind fun g11 =>
  bif g11 then (j3 n kr2 x0 x13 x14)
  else (j5 n kr2 (l4 n kr2 k) x0 x5 (x6.1, x6.2.1, x6.2.2.1, x6.2.2.2.1, x6.2.2.2.2.1, x6.2.2.2.2.2.1, x6.2.2.2.2.2.2.1, x6.2.2.2.2.2.2.2.1, x6.2.2.2.2.2.2.2.2) x7 x8 x13 x14)))
  else (j3 n kr2 x0 x13 x14)
theorem wb4 (n : Nat) (Kr2 : Q) (Kr4 : Q) (x0 : List DRecord) (x5 : Int) (x6 : DOp) (x7 : Int) (x8 : Int) (x13 : Int) (x14 : Int) (K3 : Q) (K1 : Q) (X5 : XC) : ev (db4 n X5) (keepSt (Z1 x0 x5 x6 x7 x8 x13 x14) [0, 5, 6, 7, 8, 13, 14]) (E [(2, K3), (1, K3), (0, K1)]) Kr4 =
  (bif (decide (x8 < (x0.length : Int))) then (idxK x0 x8 fun e1 => (bif (decide (e1.1.1 = x7)) then (some (decide (e1.1.2.2.1 = x6.2.2.1))) else some false).bind fun g2 =>
  (bif g2 then (some (decide (e1.1.2.2.2.1 = x6.2.2.2.1))) else some false).bind fun g3 =>
  bif g3 then (some (x5, x8, true, ()))
  else (idxK x0 x8 fun e4 => (cml_of.f n ((e4.1.1, e4.1.2.1, e4.1.2.2.1, e4.1.2.2.2.1, e4.1.2.2.2.2.1, e4.1.2.2.2.2.2.1, e4.1.2.2.2.2.2.2.1, e4.1.2.2.2.2.2.2.2.1, e4.1.2.2.2.2.2.2.2.2), e4.2.1, e4.2.2)).bind fun r5 => idxK x0 x8 fun e6 => (cml_Touches.f n ((e6.1.1, e6.1.2.1, e6.1.2.2.1, e6.1.2.2.2.1, e6.1.2.2.2.2.1, e6.1.2.2.2.2.2.1, e6.1.2.2.2.2.2.2.1, e6.1.2.2.2.2.2.2.2.1, e6.1.2.2.2.2.2.2.2.2), e6.2.1, e6.2.2) x6.2.1).bind fun r7 => (bif r7 then some true else (idxK x0 x8 fun e9 => (cml_names.f n ((e9.1.1, e9.1.2.1, e9.1.2.2.1, e9.1.2.2.2.1, e9.1.2.2.2.2.1, e9.1.2.2.2.2.2.1, e9.1.2.2.2.2.2.2.1, e9.1.2.2.2.2.2.2.2.1, e9.1.2.2.2.2.2.2.2.2), e9.2.1, e9.2.2) x6.2.2.1 x6.2.2.2.1).bind fun r10 => some r10)).bind fun g8 =>
  (bif g8 then ((bif r5.2.1 then (some (decide (r5.1.2.1 = x6.2.1))) else some false).bind fun g12 =>
  some (!g12)) else some false).bind fun g11 =>
  bif g11 then (K3 (Z0 x0 x13 x14))
  else (ev X5 (Z1 x0 x5 ((x6.1, x6.2.1, x6.2.2.1, x6.2.2.2.1, x6.2.2.2.2.1, x6.2.2.2.2.2.1, x6.2.2.2.2.2.2.1, x6.2.2.2.2.2.2.2.1, x6.2.2.2.2.2.2.2.2) : DOp) x7 x8 x13 x14) (E [(2, K3), (1, K3), (0, K1)]) (Kb4 Kr4))))
  else (K3 (Z0 x0 x13 x14)) : Option R) := by kernel_rfl
theorem l4_ok (n : Nat) (Kr2 : Q) (kr2 : (List DRecord) → Int → Int → Option (Int × Int × Bool × Unit)) (hK2 : ∀ (x0 : List DRecord) (x13 : Int) (x14 : Int), Kr2 (Z0 x0 x13 x14) = kr2 x0 x13 x14) (k : Nat) : ∀ (x0 : List DRecord) (x5 : Int) (x6 : DOp) (x7 : Int) (x8 : Int) (x13 : Int) (x14 : Int), loopEv [0, 5, 6, 7, 8, 13, 14] (fun s K => ev (cb4 n) s (E [(2, (K3 n Kr2)), (1, (K3 n Kr2)), (0, (K1 n))]) K) k (Z1 x0 x5 x6 x7 x8 x13 x14) = l4 n kr2 k x0 x5 x6 x7 x8 x13 x14 := by
  induction k with
  | zero => intros; rfl
  | succ k ih =>
    intro x0 x5 x6 x7 x8 x13 x14
    exact (wb4 n Kr2 (fun st => loopEv [0, 5, 6, 7, 8, 13, 14] (fun s K => ev (cb4 n) s (E [(2, (K3 n Kr2)), (1, (K3 n Kr2)), (0, (K1 n))]) K) k st) x0 x5 x6 x7 x8 x13 x14 (K3 n Kr2) (K1 n) (c5 n)).trans (by simp -implicitDefEqProofs only [l4, q3_0 n Kr2 kr2 hK2, s5 n Kr2 (fun st => loopEv [0, 5, 6, 7, 8, 13, 14] (fun s K => ev (cb4 n) s (E [(2, (K3 n Kr2)), (1, (K3 n Kr2)), (0, (K1 n))]) K) k st) kr2 (l4 n kr2 k) hK2 ih] <;> kernel_rfl)
noncomputable def db2 (n : Nat) (X3 Y4 : XC) : XC :=
  (.aft (.seq (.reg (.op (.bin 15 .lss (.t 14) (.t 13)) none <| .nil)) <|
  (.seq (.cond (.t 15)
  .skip
  (.pre [.keep []] (.exit 0))) <|
  (.seq (.aft (.block 1 (.seq (.reg (.op (.mv 16 (.t 14)) none <| .op (.mv 5 (.t 16)) none <| .nil)) <|
  (.seq (.reg (.op (.mv 17 (.t 0)) none <| .op (.mv 18 (.t 5)) none <| .op (.idxA 19 (.t 17) (.t 18) 9 0) none <| .op (.fa 20 19 0 0) none <| .op (.ld 21 20 8 true) none <| .op (.alloc 6 ⟨TOp, (((0 : Int), (0 : Int), (0 : Int), ([] : List Int), (0 : Int), ([] : List Int), (0 : Int), ([] : List Int), ()) : DOp)⟩) none <| .op (.st 6 (.t 21) 8) none <| .nil)) <|
  (.seq (.reg (.op (.fa 22 6 0 0) none <| .op (.ld 23 22 1 false) none <| .op (.call (some 24) (cml_undo.sp n) [.v (.t 23)]) none <| .op (.mv 7 (.t 24)) none <| .nil)) <|
  (.seq (.seq (.reg (.op (.mv 25 (.t 7)) none <| .op (.bin 26 .eql (.t 25) (.c ⟨.int .u8, ((0 : Int) : Int)⟩)) none <| .nil)) <|
  (.cond (.t 26)
  (.pre [.keep [0, 13, 14]] (.exit 1))
  .skip)) <|
  (.seq (.pre [.keep [0, 5, 6, 7, 13, 14]] (.reg (.op (.mv 27 (.t 5)) none <| .op (.bin 28 .add (.t 27) (.c ⟨.int .i64, ((1 : Int) : Int)⟩)) none <| .op (.mv 8 (.t 28)) none <| .nil))) <|
  (.block 2 (.pre [.keep [0, 5, 6, 7, 8, 13, 14]] (.loop n [0, 5, 6, 7, 8, 13, 14] Y4))))))))) [.keep [0, 13, 14]]) X3))) [.keep [0, 13, 14]])
noncomputable abbrev cb2 (n : Nat) : XC := db2 n (c3 n) (cb4 n)
theorem q1_0_r (n : Nat) (X : XC)  : H1 n X [] = (ev X [] (E []) (retK rs ps r) : Option R) := by kernel_rfl
theorem q1_0 (n : Nat)  : K1 n [] = j1 n  := (q1_0_r n (c1 n) ).trans (s1 n )
noncomputable def l2 (n : Nat) : Nat → (List DRecord) → Int → Int → Option (Int × Int × Bool × Unit)
  | 0, _, _, _ => none
  | k + 1, x0, x13, x14 =>
  bif (decide (x14 < x13)) then (idxK x0 x14 fun e1 => (cml_undo.f n e1.1.1).bind fun r2 => bif (decide (r2 = (0 : Int))) then (j3 n (l2 n k) x0 x13 x14)
  else (l4 n (l2 n k) n x0 x14 (e1.1.1, e1.1.2.1, e1.1.2.2.1, e1.1.2.2.2.1, e1.1.2.2.2.2.1, e1.1.2.2.2.2.2.1, e1.1.2.2.2.2.2.2.1, e1.1.2.2.2.2.2.2.2.1, e1.1.2.2.2.2.2.2.2.2) r2 (IntKind.i64.wrap (x14 + (1 : Int))) x13 x14))
  else (j1 n )
theorem wb2 (n : Nat) (Kr2 : Q) (x0 : List DRecord) (x13 : Int) (x14 : Int) (K1 : Q) (X3 Y4 : XC) : ev (db2 n X3 Y4) (keepSt (Z0 x0 x13 x14) [0, 13, 14]) (E [(0, K1)]) Kr2 =
  (bif (decide (x14 < x13)) then (idxK x0 x14 fun e1 => (cml_undo.f n e1.1.1).bind fun r2 => bif (decide (r2 = (0 : Int))) then (ev X3 (Z0 x0 x13 x14) (E [(0, K1)]) (Kb2 Kr2))
  else (loopEv [0, 5, 6, 7, 8, 13, 14] (fun s K => ev Y4 s (E [(2, (H3 n K1 (Kb2 Kr2) X3)), (1, (H3 n K1 (Kb2 Kr2) X3)), (0, K1)]) K) n (Z1 x0 x14 ((e1.1.1, e1.1.2.1, e1.1.2.2.1, e1.1.2.2.2.1, e1.1.2.2.2.2.1, e1.1.2.2.2.2.2.1, e1.1.2.2.2.2.2.2.1, e1.1.2.2.2.2.2.2.2.1, e1.1.2.2.2.2.2.2.2.2) : DOp) r2 (IntKind.i64.wrap (x14 + (1 : Int))) x13 x14)))
  else (K1 []) : Option R) := by kernel_rfl
theorem l2_ok (n : Nat) (k : Nat) : ∀ (x0 : List DRecord) (x13 : Int) (x14 : Int), loopEv [0, 13, 14] (fun s K => ev (cb2 n) s (E [(0, (K1 n))]) K) k (Z0 x0 x13 x14) = l2 n k x0 x13 x14 := by
  induction k with
  | zero => intros; rfl
  | succ k ih =>
    intro x0 x13 x14
    exact (wb2 n (fun st => loopEv [0, 13, 14] (fun s K => ev (cb2 n) s (E [(0, (K1 n))]) K) k st) x0 x13 x14 (K1 n) (c3 n) (cb4 n)).trans (by simp -implicitDefEqProofs only [l2, s3 n (fun st => loopEv [0, 13, 14] (fun s K => ev (cb2 n) s (E [(0, (K1 n))]) K) k st) (l2 n k) ih, l4_ok n (fun st => loopEv [0, 13, 14] (fun s K => ev (cb2 n) s (E [(0, (K1 n))]) K) k st) (l2 n k) ih, q1_0 n] <;> kernel_rfl)
noncomputable def d (n : Nat) (X1 Y2 : XC) : XC :=
  (.seq (.reg (.op (.mv 2 (.c ⟨.int .i64, ((0 : Int) : Int)⟩)) none <| .op (.mv 3 (.c ⟨.int .i64, ((0 : Int) : Int)⟩)) none <| .op (.mv 4 (.c ⟨.bool, (false : Bool)⟩)) none <| .nil)) <|
  (.scopeS (.seq .skip <|
  (.seq (.aft (.seq (.reg (.op (.mv 12 (.t 0)) none <| .op (.len 13 (.t 12) false) none <| .op (.mv 14 (.c ⟨.int .i64, ((0 : Int) : Int)⟩)) none <| .nil)) <|
  (.block 0 (.pre [.keep [0, 13, 14]] (.loop n [0, 13, 14] Y2)))) [.keep []]) X1))))
noncomputable abbrev c (n : Nat) : XC := d n (c1 n) (cb2 n)
noncomputable def f (n : Nat) (a0 : List DRecord) : Option (Int × Int × Bool × Unit) :=
  l2 n n a0 (a0.length : Int) (0 : Int)
theorem w (n : Nat) (a0 : List DRecord) (X1 Y2 : XC) : evFn (d n X1 Y2) rs ps r (a0, ()) =
  (loopEv [0, 13, 14] (fun s K => ev Y2 s (E [(0, (H1 n X1))]) K) n (Z0 a0 (a0.length : Int) (0 : Int)) : Option R) := by kernel_rfl
theorem ok (n : Nat) (a0 : List DRecord) : evFn (c n) rs ps r (a0, ()) = f n a0 := (w n a0 (c1 n) (cb2 n)).trans (by simp -implicitDefEqProofs only [f, l2_ok n] <;> kernel_rfl)
noncomputable def sp (n : Nat) : FSpec := { f := 30, ps := ps, r := r, run := fun x => f n x.1 }
theorem calls (n : Nat) : (c n).calls = [cml_undo.sp n, cml_of.sp n, cml_Touches.sp n, cml_names.sp n] := by kernel_rfl
theorem fits (n : Nat) : fnB tab hd Try.f30 (c n) rs (sp n).ps (sp n).r = true := by kernel_rfl
theorem sound (n : Nat) : Sound Try.prog (sp n) := by
  refine fnB_sound tabOk eqFacts mixed (fn := Try.f30) (c := c n) (rs := rs) (by kernel_rfl) ?_ (fits n) ?_
  · rw [calls]
    intro s hs
    simp only [List.mem_cons, List.not_mem_nil, or_false] at hs
    rcases hs with rfl | rfl | rfl | rfl
    · exact cml_undo.meets n
    · exact cml_of.meets n
    · exact cml_Touches.meets n
    · exact cml_names.meets n
  · rintro ⟨a0, ⟨⟩⟩ y h
    exact (ok n a0).trans h
theorem meets (n : Nat) : Meets Try.prog (sp n) := (sound n).meets
end cml_pair
/-! slices.Clone[[]backwater/api.Record,backwater/api.Record] -/
namespace slices_Clone
abbrev ps : List (Ty × Bool) := [(.slB .U false TRecord, false)]
abbrev r : Ty := .slX .U TRecord
abbrev rs : List RV := [.t 2]
abbrev R : Type := (rtOf ps r).den
abbrev Q : Type := St → Option R
abbrev E (l : List (Nat × Q)) : Ks R := ⟨retK rs ps r, l⟩
noncomputable def d (n : Nat) : XC :=
  (.seq (.reg (.op (.mv 2 (.c ⟨.nil 0, ()⟩)) none <| .nil)) <|
  (.seq (.seq (.reg (.op (.mv 3 (.t 0)) none <| .op (.eqnil 4 (.t 3) false true) none <| .nil)) <|
  (.cond (.t 4)
  (.seq (.reg (.op (.mv 2 (.c ⟨.nil 0, ()⟩)) none <| .nil)) <|
  .ret)
  .skip)) <|
  (.seq (.reg (.op (.bsl 5 TRecord []) none <| .op (.mv 6 (.t 0)) none <| .op (.app 7 5 (.t 6) 88 9) none <| .op (.take 2 7) none <| .nil)) <|
  .ret)))
noncomputable abbrev c (n : Nat) : XC := d n
noncomputable def f (n : Nat) (a0 : List DRecord) : Option (List DRecord) :=
  bif (List.isEmpty a0) then both (some ([] : List DRecord)) (appK ([] : List DRecord).length a0.length 88 (some (([] : List DRecord) ++ a0))) else (appK ([] : List DRecord).length a0.length 88 (some (([] : List DRecord) ++ a0)))
theorem ok (n : Nat) (a0 : List DRecord) : evFn (c n) rs ps r (a0, ()) = f n a0 := by kernel_rfl
noncomputable def sp (n : Nat) : FSpec := { f := 32, ps := ps, r := r, run := fun x => f n x.1 }
theorem calls (n : Nat) : (c n).calls = [] := by kernel_rfl
theorem fits (n : Nat) : fnB tab hd Try.f32 (c n) rs (sp n).ps (sp n).r = true := by kernel_rfl
theorem sound (n : Nat) : Sound Try.prog (sp n) := by
  refine fnB_sound tabOk eqFacts mixed (fn := Try.f32) (c := c n) (rs := rs) (by kernel_rfl) ?_ (fits n) ?_
  · rw [calls]
    intro s hs; cases hs
  · rintro ⟨a0, ⟨⟩⟩ y h
    exact (ok n a0).trans h
theorem meets (n : Nat) : Meets Try.prog (sp n) := (sound n).meets
end slices_Clone
/-! backwater/cml.Optimise$1 -/
namespace cml_Optimise_1
abbrev ps : List (Ty × Bool) := [(TRecord, false), (.cref (.int .u32), false)]
abbrev r : Ty := .bool
abbrev rs : List RV := [.t 3]
abbrev R : Type := (rtOf ps r).den
abbrev Q : Type := St → Option R
abbrev E (l : List (Nat × Q)) : Ks R := ⟨retK rs ps r, l⟩
noncomputable def d (n : Nat) : XC :=
  (.seq (.reg (.op (.boxv 2 (.t 0)) none <| .op (.mv 3 (.c ⟨.bool, (false : Bool)⟩)) none <| .nil)) <|
  (.seq (.reg (.op (.ld 4 2 9 true) none <| .op (.ld 5 1 1 false) none <| .op (.call (some 6) (cml_Touches.sp n) [.v (.t 4), .v (.t 5)]) none <| .op (.mv 3 (.t 6)) none <| .nil)) <|
  .ret))
noncomputable abbrev c (n : Nat) : XC := d n
noncomputable def f (n : Nat) (a0 : DRecord) (a1 : Int) : Option Bool :=
  (cml_Touches.f n ((a0.1.1, a0.1.2.1, a0.1.2.2.1, a0.1.2.2.2.1, a0.1.2.2.2.2.1, a0.1.2.2.2.2.2.1, a0.1.2.2.2.2.2.2.1, a0.1.2.2.2.2.2.2.2.1, a0.1.2.2.2.2.2.2.2.2), a0.2.1, a0.2.2) a1).bind fun r1 => some r1
theorem ok (n : Nat) (a0 : DRecord) (a1 : Int) : evFn (c n) rs ps r (a0, a1, ()) = f n a0 a1 := by kernel_rfl
noncomputable def sp (n : Nat) : FSpec := { f := 33, ps := ps, r := r, run := fun x => f n x.1 x.2.1 }
theorem calls (n : Nat) : (c n).calls = [cml_Touches.sp n] := by kernel_rfl
theorem fits (n : Nat) : fnB tab hd Try.f33 (c n) rs (sp n).ps (sp n).r = true := by kernel_rfl
theorem sound (n : Nat) : Sound Try.prog (sp n) := by
  refine fnB_sound tabOk eqFacts mixed (fn := Try.f33) (c := c n) (rs := rs) (by kernel_rfl) ?_ (fits n) ?_
  · rw [calls]
    intro s hs
    simp only [List.mem_cons, List.not_mem_nil, or_false] at hs
    rcases hs with rfl
    · exact cml_Touches.meets n
  · rintro ⟨a0, a1, ⟨⟩⟩ y h
    exact (ok n a0 a1).trans h
theorem meets (n : Nat) : Meets Try.prog (sp n) := (sound n).meets
end cml_Optimise_1
/-! slices.IndexFunc[[]backwater/api.Record,backwater/api.Record] -/
namespace slices_IndexFunc_47
abbrev ps : List (Ty × Bool) := [(.slB .U false TRecord, false), (.fn 33 (.pair (.cref (.int .u32)) .unit), false)]
abbrev r : Ty := .int .i64
abbrev rs : List RV := [.t 4]
abbrev R : Type := (rtOf ps r).den
abbrev Q : Type := St → Option R
abbrev E (l : List (Nat × Q)) : Ks R := ⟨retK rs ps r, l⟩
abbrev Z0 (x0 : Ty.den (.slB .U false TRecord)) (x1 : Ty.den (.fn 33 (.pair (.cref (.int .u32)) .unit))) (x7 : Ty.den (.int .i64)) (x8 : Ty.den (.int .i64)) : St := [(0, some ⟨.slB .U false TRecord, x0⟩), (1, some ⟨.fn 33 (.pair (.cref (.int .u32)) .unit), x1⟩), (7, some ⟨.int .i64, x7⟩), (8, some ⟨.int .i64, x8⟩)]
noncomputable def d1 (n : Nat) : XC :=
  (.seq (.reg (.op (.mv 4 (.c ⟨.int .i64, ((-1 : Int) : Int)⟩)) none <| .nil)) <|
  .ret)
noncomputable abbrev c1 (n : Nat) : XC := d1 n
noncomputable def j1 (n : Nat)  : Option Int :=
  some (-1 : Int)
theorem s1 (n : Nat)  : ev (c1 n) [] (E []) (retK rs ps r) = j1 n  := by kernel_rfl
noncomputable def H1 (n : Nat) (X : XC) : Q := fun st => ghK [.keep []] st fun st => ev X st (E []) (retK rs ps r)
noncomputable abbrev K1 (n : Nat) : Q := H1 n (c1 n)
noncomputable def Kb2 (Kr2 : Q) : Q := fun st => ghK [.keep [0, 1, 7, 8]] st Kr2
noncomputable def d3 (n : Nat) : XC :=
  (.aft (.reg (.op (.bin 18 .add (.t 8) (.c ⟨.int .i64, ((1 : Int) : Int)⟩)) none <| .op (.mv 8 (.t 18)) none <| .nil)) [.keep [0, 1, 7, 8]])
noncomputable abbrev c3 (n : Nat) : XC := d3 n
theorem qb2_0 (Kr2 : Q) (kr2 : (List DRecord) → (Int × Unit) → Int → Int → Option Int) (hK2 : ∀ (x0 : List DRecord) (x1 : Int × Unit) (x7 : Int) (x8 : Int), Kr2 (Z0 x0 x1 x7 x8) = kr2 x0 x1 x7 x8) (x0 : List DRecord) (x1 : Int × Unit) (x7 : Int) (x8 : Int) : Kb2 Kr2 (Z0 x0 x1 x7 x8) = kr2 x0 x1 x7 x8 := (by kernel_rfl : _ = Kr2 (Z0 x0 x1 x7 x8)).trans (hK2 x0 x1 x7 x8)
noncomputable def j3 (n : Nat) (kr2 : (List DRecord) → (Int × Unit) → Int → Int → Option Int) (x0 : List DRecord) (x1 : Int × Unit) (x7 : Int) (x8 : Int) : Option Int :=
  kr2 x0 x1 x7 (IntKind.i64.wrap (x8 + (1 : Int)))
theorem w3 (n : Nat) (Kr2 : Q) (x0 : List DRecord) (x1 : Int × Unit) (x7 : Int) (x8 : Int) (K1 : Q) (Kb2 : Q) : ev (d3 n) (Z0 x0 x1 x7 x8) (E [(0, K1)]) Kb2 =
  (Kb2 (Z0 x0 x1 x7 (IntKind.i64.wrap (x8 + (1 : Int)))) : Option R) := by kernel_rfl
theorem s3 (n : Nat) (Kr2 : Q) (kr2 : (List DRecord) → (Int × Unit) → Int → Int → Option Int) (hK2 : ∀ (x0 : List DRecord) (x1 : Int × Unit) (x7 : Int) (x8 : Int), Kr2 (Z0 x0 x1 x7 x8) = kr2 x0 x1 x7 x8) (x0 : List DRecord) (x1 : Int × Unit) (x7 : Int) (x8 : Int) : ev (c3 n) (Z0 x0 x1 x7 x8) (E [(0, (K1 n))]) (Kb2 Kr2) = j3 n kr2 x0 x1 x7 x8 := (w3 n Kr2 x0 x1 x7 x8 (K1 n) (Kb2 Kr2)).trans (by simp -implicitDefEqProofs only [j3, qb2_0 Kr2 kr2 hK2] <;> kernel_rfl)
noncomputable def H3 (n : Nat) (K1 : Q) (Kb2 : Q) (X : XC) : Q := fun st => ghK [.keep [0, 1, 7, 8]] st fun st => ev X st (E [(0, K1)]) Kb2
noncomputable abbrev K3 (n : Nat) (Kr2 : Q) : Q := H3 n (K1 n) (Kb2 Kr2) (c3 n)
noncomputable def db2 (n : Nat) (X3 : XC) : XC :=
  (.aft (.seq (.reg (.op (.bin 9 .lss (.t 8) (.t 7)) none <| .nil)) <|
  (.seq (.cond (.t 9)
  .skip
  (.pre [.keep []] (.exit 0))) <|
  (.seq (.aft (.block 1 (.seq (.reg (.op (.mv 10 (.t 8)) none <| .op (.mv 5 (.t 10)) none <| .nil)) <|
  (.seq (.reg (.op (.mv 11 (.t 1)) none <| .op (.mv 12 (.t 0)) none <| .op (.mv 13 (.t 5)) none <| .op (.idxA 14 (.t 12) (.t 13) 9 0) none <| .op (.ld 15 14 9 true) none <| .op (.callV (some 16) (cml_Optimise_1.sp n) 11 19 [.v (.t 15)]) none <| .nil)) <|
  (.cond (.t 16)
  (.seq (.pre [.keep [5]] (.reg (.op (.mv 17 (.t 5)) none <| .op (.mv 4 (.t 17)) none <| .nil))) <|
  .ret)
  .skip)))) [.keep [0, 1, 7, 8]]) X3))) [.keep [0, 1, 7, 8]])
noncomputable abbrev cb2 (n : Nat) : XC := db2 n (c3 n)
theorem q1_0_r (n : Nat) (X : XC)  : H1 n X [] = (ev X [] (E []) (retK rs ps r) : Option R) := by kernel_rfl
theorem q1_0 (n : Nat)  : K1 n [] = j1 n  := (q1_0_r n (c1 n) ).trans (s1 n )
noncomputable def l2 (n : Nat) : Nat → (List DRecord) → (Int × Unit) → Int → Int → Option Int
  | 0, _, _, _, _ => none
  | k + 1, x0, x1, x7, x8 =>
  bif (decide (x8 < x7)) then (idxK x0 x8 fun e1 => (cml_Optimise_1.f n ((e1.1.1, e1.1.2.1, e1.1.2.2.1, e1.1.2.2.2.1, e1.1.2.2.2.2.1, e1.1.2.2.2.2.2.1, e1.1.2.2.2.2.2.2.1, e1.1.2.2.2.2.2.2.2.1, e1.1.2.2.2.2.2.2.2.2), e1.2.1, e1.2.2) x1.1).bind fun r2 => bif r2 then (some x8)
  else (j3 n (l2 n k) x0 x1 x7 x8))
  else (j1 n )
theorem wb2 (n : Nat) (Kr2 : Q) (x0 : List DRecord) (x1 : Int × Unit) (x7 : Int) (x8 : Int) (K1 : Q) (X3 : XC) : ev (db2 n X3) (keepSt (Z0 x0 x1 x7 x8) [0, 1, 7, 8]) (E [(0, K1)]) Kr2 =
  (bif (decide (x8 < x7)) then (idxK x0 x8 fun e1 => (cml_Optimise_1.f n ((e1.1.1, e1.1.2.1, e1.1.2.2.1, e1.1.2.2.2.1, e1.1.2.2.2.2.1, e1.1.2.2.2.2.2.1, e1.1.2.2.2.2.2.2.1, e1.1.2.2.2.2.2.2.2.1, e1.1.2.2.2.2.2.2.2.2), e1.2.1, e1.2.2) x1.1).bind fun r2 => bif r2 then (some x8)
  else (ev X3 (Z0 x0 x1 x7 x8) (E [(0, K1)]) (Kb2 Kr2)))
  else (K1 []) : Option R) := by kernel_rfl
theorem l2_ok (n : Nat) (k : Nat) : ∀ (x0 : List DRecord) (x1 : Int × Unit) (x7 : Int) (x8 : Int), loopEv [0, 1, 7, 8] (fun s K => ev (cb2 n) s (E [(0, (K1 n))]) K) k (Z0 x0 x1 x7 x8) = l2 n k x0 x1 x7 x8 := by
  induction k with
  | zero => intros; rfl
  | succ k ih =>
    intro x0 x1 x7 x8
    exact (wb2 n (fun st => loopEv [0, 1, 7, 8] (fun s K => ev (cb2 n) s (E [(0, (K1 n))]) K) k st) x0 x1 x7 x8 (K1 n) (c3 n)).trans (by simp -implicitDefEqProofs only [l2, s3 n (fun st => loopEv [0, 1, 7, 8] (fun s K => ev (cb2 n) s (E [(0, (K1 n))]) K) k st) (l2 n k) ih, q1_0 n] <;> kernel_rfl)
noncomputable def d (n : Nat) (X1 Y2 : XC) : XC :=
  (.seq (.reg (.op (.mv 4 (.c ⟨.int .i64, ((0 : Int) : Int)⟩)) none <| .nil)) <|
  (.seq (.aft (.seq (.reg (.op (.mv 6 (.t 0)) none <| .op (.len 7 (.t 6) false) none <| .op (.mv 8 (.c ⟨.int .i64, ((0 : Int) : Int)⟩)) none <| .nil)) <|
  (.block 0 (.pre [.keep [0, 1, 7, 8]] (.loop n [0, 1, 7, 8] Y2)))) [.keep []]) X1))
noncomputable abbrev c (n : Nat) : XC := d n (c1 n) (cb2 n)
noncomputable def f (n : Nat) (a0 : List DRecord) (a1 : Int × Unit) : Option Int :=
  l2 n n a0 a1 (a0.length : Int) (0 : Int)
theorem w (n : Nat) (a0 : List DRecord) (a1 : Int × Unit) (X1 Y2 : XC) : evFn (d n X1 Y2) rs ps r (a0, a1, ()) =
  (loopEv [0, 1, 7, 8] (fun s K => ev Y2 s (E [(0, (H1 n X1))]) K) n (Z0 a0 a1 (a0.length : Int) (0 : Int)) : Option R) := by kernel_rfl
theorem ok (n : Nat) (a0 : List DRecord) (a1 : Int × Unit) : evFn (c n) rs ps r (a0, a1, ()) = f n a0 a1 := (w n a0 a1 (c1 n) (cb2 n)).trans (by simp -implicitDefEqProofs only [f, l2_ok n] <;> kernel_rfl)
noncomputable def sp (n : Nat) : FSpec := { f := 47, ps := ps, r := r, run := fun x => f n x.1 x.2.1 }
theorem calls (n : Nat) : (c n).calls = [cml_Optimise_1.sp n] := by kernel_rfl
theorem fits (n : Nat) : fnB tab hd Try.f47 (c n) rs (sp n).ps (sp n).r = true := by kernel_rfl
theorem sound (n : Nat) : Sound Try.prog (sp n) := by
  refine fnB_sound tabOk eqFacts mixed (fn := Try.f47) (c := c n) (rs := rs) (by kernel_rfl) ?_ (fits n) ?_
  · rw [calls]
    intro s hs
    simp only [List.mem_cons, List.not_mem_nil, or_false] at hs
    rcases hs with rfl
    · exact cml_Optimise_1.meets n
  · rintro ⟨a0, a1, ⟨⟩⟩ y h
    exact (ok n a0 a1).trans h
theorem meets (n : Nat) : Meets Try.prog (sp n) := (sound n).meets
end slices_IndexFunc_47
/-! slices.DeleteFunc[[]backwater/api.Record,backwater/api.Record] -/
namespace slices_DeleteFunc_31
abbrev ps : List (Ty × Bool) := [(.slX .U TRecord, false), (.fn 33 (.pair (.cref (.int .u32)) .unit), false)]
abbrev r : Ty := .slX .U TRecord
abbrev rs : List RV := [.t 4]
abbrev R : Type := (rtOf ps r).den
abbrev Q : Type := St → Option R
abbrev E (l : List (Nat × Q)) : Ks R := ⟨retK rs ps r, l⟩
abbrev Z0 (x0 : Ty.den (.slX .U TRecord)) (x5 : Ty.den (.int .i64)) : St := [(0, some ⟨.slX .U TRecord, x0⟩), (5, some ⟨.int .i64, x5⟩)]
abbrev Z1 (x0 : Ty.den (.slX .U TRecord)) (x1 : Ty.den (.fn 33 (.pair (.cref (.int .u32)) .unit))) (x5 : Ty.den (.int .i64)) (x6 : Ty.den (.int .i64)) : St := [(0, some ⟨.slX .U TRecord, x0⟩), (1, some ⟨.fn 33 (.pair (.cref (.int .u32)) .unit), x1⟩), (5, some ⟨.int .i64, x5⟩), (6, some ⟨.int .i64, x6⟩)]
noncomputable def d1 (n : Nat) : XC :=
  (.seq (.reg (.op (.als 36 0) none <| .op (.mv 37 (.t 5)) none <| .op (.slcT 38 36 (.t 37) 9) none <| .op (.clr 38 ⟨TRecord, ((((0 : Int), (0 : Int), (0 : Int), ([] : List Int), (0 : Int), ([] : List Int), (0 : Int), ([] : List Int), ()), (0 : Int), ()) : DRecord)⟩ 88) none <| .nil)) <|
  (.seq (.reg (.op (.take 39 0) none <| .op (.mv 40 (.t 5)) none <| .op (.slcX 41 39 (.t 40) 9) none <| .op (.take 4 41) none <| .nil)) <|
  .ret))
noncomputable abbrev c1 (n : Nat) : XC := d1 n
noncomputable def j1 (n : Nat) (x0 : List DRecord) (x5 : Int) : Option (List DRecord) :=
  sliceK x5 (x0.length : Int) x0.length (eqK (x5 + ((x0.length : Int) - x5)) (x0.length : Int) (sliceK 0 x5 (x0.take (x5).toNat ++ List.replicate (((x0.length : Int) - x5)).toNat (((0 : Int), (0 : Int), (0 : Int), ([] : List Int), (0 : Int), ([] : List Int), (0 : Int), ([] : List Int), ()), (0 : Int), ())).length (some ((x0.take (x5).toNat ++ List.replicate (((x0.length : Int) - x5)).toNat (((0 : Int), (0 : Int), (0 : Int), ([] : List Int), (0 : Int), ([] : List Int), (0 : Int), ([] : List Int), ()), (0 : Int), ())).take (x5).toNat))))
theorem s1 (n : Nat) (x0 : List DRecord) (x5 : Int) : ev (c1 n) (Z0 x0 x5) (E []) (retK rs ps r) = j1 n x0 x5 := by kernel_rfl
noncomputable def H1 (n : Nat) (X : XC) : Q := fun st => ghK [.keep [0, 5]] st fun st => ev X st (E []) (retK rs ps r)
noncomputable abbrev K1 (n : Nat) : Q := H1 n (c1 n)
noncomputable def Kb2 (Kr2 : Q) : Q := fun st => ghK [.keep [0, 1, 5, 6]] st Kr2
noncomputable def d3 (n : Nat) : XC :=
  (.aft (.reg (.op (.mv 20 (.t 6)) none <| .op (.bin 21 .add (.t 20) (.c ⟨.int .i64, ((1 : Int) : Int)⟩)) none <| .op (.mv 6 (.t 21)) none <| .nil)) [.keep [0, 1, 5, 6]])
noncomputable abbrev c3 (n : Nat) : XC := d3 n
theorem qb2_0 (Kr2 : Q) (kr2 : (List DRecord) → (Int × Unit) → Int → Int → Option (List DRecord)) (hK2 : ∀ (x0 : List DRecord) (x1 : Int × Unit) (x5 : Int) (x6 : Int), Kr2 (Z1 x0 x1 x5 x6) = kr2 x0 x1 x5 x6) (x0 : List DRecord) (x1 : Int × Unit) (x5 : Int) (x6 : Int) : Kb2 Kr2 (Z1 x0 x1 x5 x6) = kr2 x0 x1 x5 x6 := (by kernel_rfl : _ = Kr2 (Z1 x0 x1 x5 x6)).trans (hK2 x0 x1 x5 x6)
noncomputable def j3 (n : Nat) (kr2 : (List DRecord) → (Int × Unit) → Int → Int → Option (List DRecord)) (x0 : List DRecord) (x1 : Int × Unit) (x5 : Int) (x6 : Int) : Option (List DRecord) :=
  kr2 x0 x1 x5 (IntKind.i64.wrap (x6 + (1 : Int)))
theorem w3 (n : Nat) (Kr2 : Q) (x0 : List DRecord) (x1 : Int × Unit) (x5 : Int) (x6 : Int) (K1 : Q) (Kb2 : Q) : ev (d3 n) (Z1 x0 x1 x5 x6) (E [(0, K1)]) Kb2 =
  (Kb2 (Z1 x0 x1 x5 (IntKind.i64.wrap (x6 + (1 : Int)))) : Option R) := by kernel_rfl
theorem s3 (n : Nat) (Kr2 : Q) (kr2 : (List DRecord) → (Int × Unit) → Int → Int → Option (List DRecord)) (hK2 : ∀ (x0 : List DRecord) (x1 : Int × Unit) (x5 : Int) (x6 : Int), Kr2 (Z1 x0 x1 x5 x6) = kr2 x0 x1 x5 x6) (x0 : List DRecord) (x1 : Int × Unit) (x5 : Int) (x6 : Int) : ev (c3 n) (Z1 x0 x1 x5 x6) (E [(0, (K1 n))]) (Kb2 Kr2) = j3 n kr2 x0 x1 x5 x6 := (w3 n Kr2 x0 x1 x5 x6 (K1 n) (Kb2 Kr2)).trans (by simp -implicitDefEqProofs only [j3, qb2_0 Kr2 kr2 hK2] <;> kernel_rfl)
noncomputable def H3 (n : Nat) (K1 : Q) (Kb2 : Q) (X : XC) : Q := fun st => ghK [.keep [0, 1, 5, 6]] st fun st => ev X st (E [(0, K1)]) Kb2
noncomputable abbrev K3 (n : Nat) (Kr2 : Q) : Q := H3 n (K1 n) (Kb2 Kr2) (c3 n)
noncomputable def db2 (n : Nat) (X3 : XC) : XC :=
  (.aft (.seq (.seq (.reg (.op (.mv 16 (.t 6)) none <| .op (.bor 17 0) none <| .op (.len 18 (.t 17) false) none <| .op (.bin 19 .lss (.t 16) (.t 18)) none <| .nil)) <|
  (.cond (.t 19)
  .skip
  (.pre [.keep [0, 5]] (.exit 0)))) <|
  (.seq (.aft (.block 1 (.seq (.reg (.op (.bor 22 0) none <| .op (.mv 23 (.t 6)) none <| .op (.idxA 24 (.t 22) (.t 23) 9 0) none <| .op (.ld 25 24 9 true) none <| .op (.alloc 7 ⟨TRecord, ((((0 : Int), (0 : Int), (0 : Int), ([] : List Int), (0 : Int), ([] : List Int), (0 : Int), ([] : List Int), ()), (0 : Int), ()) : DRecord)⟩) none <| .op (.st 7 (.t 25) 9) none <| .nil)) <|
  (.seq (.reg (.op (.mv 26 (.t 1)) none <| .op (.ld 27 7 9 true) none <| .op (.callV (some 28) (cml_Optimise_1.sp n) 26 42 [.v (.t 27)]) none <| .op (.un 29 .not (.t 28)) none <| .nil)) <|
  (.cond (.t 29)
  (.seq (.pre [.keep [0, 1, 5, 6, 7]] (.reg (.op (.als 30 0) none <| .op (.mv 31 (.t 5)) none <| .op (.ld 32 7 9 true) none <| .op (.idxE 33 (.t 30) (.t 31) 9) none <| .op (.stE 33 (.t 32) 9) none <| .nil))) <|
  (.reg (.op (.mv 34 (.t 5)) none <| .op (.bin 35 .add (.t 34) (.c ⟨.int .i64, ((1 : Int) : Int)⟩)) none <| .op (.mv 5 (.t 35)) none <| .nil)))
  .skip)))) [.keep [0, 1, 5, 6]]) X3)) [.keep [0, 1, 5, 6]])
noncomputable abbrev cb2 (n : Nat) : XC := db2 n (c3 n)
theorem q1_0_r (n : Nat) (X : XC) (x0 : List DRecord) (x5 : Int) : H1 n X (Z0 x0 x5) = (ev X (Z0 x0 x5) (E []) (retK rs ps r) : Option R) := by kernel_rfl
theorem q1_0 (n : Nat) (x0 : List DRecord) (x5 : Int) : K1 n (Z0 x0 x5) = j1 n x0 x5 := (q1_0_r n (c1 n) x0 x5).trans (s1 n x0 x5)
noncomputable def l2 (n : Nat) : Nat → (List DRecord) → (Int × Unit) → Int → Int → Option (List DRecord)
  | 0, _, _, _, _ => none
  | k + 1, x0, x1, x5, x6 =>
  bif (decide (x6 < (x0.length : Int))) then (idxK x0 x6 fun e1 => (cml_Optimise_1.f n ((e1.1.1, e1.1.2.1, e1.1.2.2.1, e1.1.2.2.2.1, e1.1.2.2.2.2.1, e1.1.2.2.2.2.2.1, e1.1.2.2.2.2.2.2.1, e1.1.2.2.2.2.2.2.2.1, e1.1.2.2.2.2.2.2.2.2), e1.2.1, e1.2.2) x1.1).bind fun r2 => bif (!r2) then (inK' x5 x0.length (idxK x0 x5 fun e3 => j3 n (l2 n k) (lset x0 x5 e1) x1 (IntKind.i64.wrap (x5 + (1 : Int))) x6))
  else (j3 n (l2 n k) x0 x1 x5 x6))
  else (j1 n x0 x5)
theorem wb2 (n : Nat) (Kr2 : Q) (x0 : List DRecord) (x1 : Int × Unit) (x5 : Int) (x6 : Int) (K1 : Q) (X3 : XC) : ev (db2 n X3) (keepSt (Z1 x0 x1 x5 x6) [0, 1, 5, 6]) (E [(0, K1)]) Kr2 =
  (bif (decide (x6 < (x0.length : Int))) then (idxK x0 x6 fun e1 => (cml_Optimise_1.f n ((e1.1.1, e1.1.2.1, e1.1.2.2.1, e1.1.2.2.2.1, e1.1.2.2.2.2.1, e1.1.2.2.2.2.2.1, e1.1.2.2.2.2.2.2.1, e1.1.2.2.2.2.2.2.2.1, e1.1.2.2.2.2.2.2.2.2), e1.2.1, e1.2.2) x1.1).bind fun r2 => bif (!r2) then (inK' x5 x0.length (idxK x0 x5 fun e3 => ev X3 (Z1 ((lset x0 x5 e1) : List DRecord) x1 (IntKind.i64.wrap (x5 + (1 : Int))) x6) (E [(0, K1)]) (Kb2 Kr2)))
  else (ev X3 (Z1 x0 x1 x5 x6) (E [(0, K1)]) (Kb2 Kr2)))
  else (K1 (Z0 x0 x5)) : Option R) := by kernel_rfl
theorem l2_ok (n : Nat) (k : Nat) : ∀ (x0 : List DRecord) (x1 : Int × Unit) (x5 : Int) (x6 : Int), loopEv [0, 1, 5, 6] (fun s K => ev (cb2 n) s (E [(0, (K1 n))]) K) k (Z1 x0 x1 x5 x6) = l2 n k x0 x1 x5 x6 := by
  induction k with
  | zero => intros; rfl
  | succ k ih =>
    intro x0 x1 x5 x6
    exact (wb2 n (fun st => loopEv [0, 1, 5, 6] (fun s K => ev (cb2 n) s (E [(0, (K1 n))]) K) k st) x0 x1 x5 x6 (K1 n) (c3 n)).trans (by simp -implicitDefEqProofs only [l2, s3 n (fun st => loopEv [0, 1, 5, 6] (fun s K => ev (cb2 n) s (E [(0, (K1 n))]) K) k st) (l2 n k) ih, q1_0 n] <;> kernel_rfl)
noncomputable def d (n : Nat) (X1 Y2 : XC) : XC :=
  (.seq (.reg (.op (.mv 4 (.c ⟨.nil 0, ()⟩)) none <| .nil)) <|
  (.seq (.reg (.op (.bor 8 0) none <| .op (.mv 9 (.t 1)) none <| .op (.call (some 10) (slices_IndexFunc_47.sp n) [.v (.t 8), .v (.t 9)]) none <| .op (.mv 5 (.t 10)) none <| .nil)) <|
  (.seq (.seq (.reg (.op (.mv 11 (.t 5)) none <| .op (.bin 12 .eql (.t 11) (.c ⟨.int .i64, ((-1 : Int) : Int)⟩)) none <| .nil)) <|
  (.cond (.t 12)
  (.seq (.reg (.op (.take 13 0) none <| .op (.take 4 13) none <| .nil)) <|
  .ret)
  .skip)) <|
  (.seq (.aft (.seq (.reg (.op (.mv 14 (.t 5)) none <| .op (.bin 15 .add (.t 14) (.c ⟨.int .i64, ((1 : Int) : Int)⟩)) none <| .op (.mv 6 (.t 15)) none <| .nil)) <|
  (.block 0 (.pre [.keep [0, 1, 5, 6]] (.loop n [0, 1, 5, 6] Y2)))) [.keep [0, 5]]) X1))))
noncomputable abbrev c (n : Nat) : XC := d n (c1 n) (cb2 n)
noncomputable def f (n : Nat) (a0 : List DRecord) (a1 : Int × Unit) : Option (List DRecord) :=
  (slices_IndexFunc_47.f n a0 a1).bind fun r1 => bif (decide (r1 = (-1 : Int))) then (some a0)
  else (l2 n n a0 a1 r1 (IntKind.i64.wrap (r1 + (1 : Int))))
theorem w (n : Nat) (a0 : List DRecord) (a1 : Int × Unit) (X1 Y2 : XC) : evFn (d n X1 Y2) rs ps r (a0, a1, ()) =
  ((slices_IndexFunc_47.f n a0 a1).bind fun r1 => bif (decide (r1 = (-1 : Int))) then (some a0)
  else (loopEv [0, 1, 5, 6] (fun s K => ev Y2 s (E [(0, (H1 n X1))]) K) n (Z1 a0 a1 r1 (IntKind.i64.wrap (r1 + (1 : Int))))) : Option R) := by kernel_rfl
theorem ok (n : Nat) (a0 : List DRecord) (a1 : Int × Unit) : evFn (c n) rs ps r (a0, a1, ()) = f n a0 a1 := (w n a0 a1 (c1 n) (cb2 n)).trans (by simp -implicitDefEqProofs only [f, l2_ok n] <;> kernel_rfl)
noncomputable def sp (n : Nat) : FSpec := { f := 31, ps := ps, r := r, run := fun x => f n x.1 x.2.1 }
theorem calls (n : Nat) : (c n).calls = [slices_IndexFunc_47.sp n, cml_Optimise_1.sp n] := by kernel_rfl
theorem fits (n : Nat) : fnB tab hd Try.f31 (c n) rs (sp n).ps (sp n).r = true := by kernel_rfl
theorem sound (n : Nat) : Sound Try.prog (sp n) := by
  refine fnB_sound tabOk eqFacts mixed (fn := Try.f31) (c := c n) (rs := rs) (by kernel_rfl) ?_ (fits n) ?_
  · rw [calls]
    intro s hs
    simp only [List.mem_cons, List.not_mem_nil, or_false] at hs
    rcases hs with rfl | rfl
    · exact slices_IndexFunc_47.meets n
    · exact cml_Optimise_1.meets n
  · rintro ⟨a0, a1, ⟨⟩⟩ y h
    exact (ok n a0 a1).trans h
theorem meets (n : Nat) : Meets Try.prog (sp n) := (sound n).meets
end slices_DeleteFunc_31
/-! slices.Grow[[]backwater/api.Record,backwater/api.Record] -/
namespace slices_Grow
abbrev ps : List (Ty × Bool) := [(.nil 0, false), (.int .i64, false)]
abbrev r : Ty := .slX .U TRecord
abbrev rs : List RV := [.t 4]
abbrev R : Type := (rtOf ps r).den
abbrev Q : Type := St → Option R
abbrev E (l : List (Nat × Q)) : Ks R := ⟨retK rs ps r, l⟩
abbrev Z0 (x0 : Ty.den (.slX .U TRecord)) : St := [(0, some ⟨.slX .U TRecord, x0⟩)]
noncomputable def d1 (n : Nat) : XC :=
  (.seq (.reg (.op (.take 26 0) none <| .op (.take 4 26) none <| .nil)) <|
  .ret)
noncomputable abbrev c1 (n : Nat) : XC := d1 n
noncomputable def j1 (n : Nat) (x0 : List DRecord) : Option (List DRecord) :=
  some x0
theorem s1 (n : Nat) (x0 : List DRecord) : ev (c1 n) (Z0 x0) (E []) (retK rs ps r) = j1 n x0 := by kernel_rfl
noncomputable def H1 (n : Nat) (X : XC) : Q := fun st => ghK [.coe 0 (.slX .U TRecord), .keep [0]] st fun st => ev X st (E []) (retK rs ps r)
noncomputable abbrev K1 (n : Nat) : Q := H1 n (c1 n)
noncomputable def d (n : Nat) (X1 : XC) : XC :=
  (.seq (.reg (.op (.mv 4 (.c ⟨.nil 0, ()⟩)) none <| .nil)) <|
  (.seq (.seq (.reg (.op (.mv 5 (.t 1)) none <| .op (.bin 6 .lss (.t 5) (.c ⟨.int .i64, ((0 : Int) : Int)⟩)) none <| .nil)) <|
  (.cond (.t 6)
  .dead
  .skip)) <|
  (.seq (.aft (.seq (.reg (.op (.mv 8 (.t 1)) none <| .op (.mv 9 (.t 0)) none <| .op (.capN 10 (.t 9)) none <| .op (.mv 11 (.t 0)) none <| .op (.len 12 (.t 11) false) none <| .op (.bin 13 .sub (.t 10) (.t 12)) none <| .op (.bin 14 .sub (.t 8) (.t 13)) none <| .op (.mv 1 (.t 14)) none <| .nil)) <|
  (.seq (.reg (.op (.mv 15 (.t 1)) none <| .op (.bin 16 .gtr (.t 15) (.c ⟨.int .i64, ((0 : Int) : Int)⟩)) none <| .nil)) <|
  (.cond (.t 16)
  (.pre [.keep [0, 1]] (.reg (.op (.mv 17 (.t 0)) none <| .op (.mv 18 (.t 0)) none <| .op (.capN 19 (.t 18)) none <| .op (.slcN 20 (.t 17) none (some (.t 19)) 9) none <| .op (.mv 21 (.t 1)) none <| .op (.appZ 22 (.t 20) (.t 21) ⟨TRecord, ((((0 : Int), (0 : Int), (0 : Int), ([] : List Int), (0 : Int), ([] : List Int), (0 : Int), ([] : List Int), ()), (0 : Int), ()) : DRecord)⟩ 88) none <| .op (.mv 23 (.t 0)) none <| .op (.len 24 (.t 23) false) none <| .op (.slcX 25 22 (.t 24) 9) none <| .op (.take 0 25) none <| .nil)))
  .skip))) [.coe 0 (.slX .U TRecord), .keep [0]]) X1)))
noncomputable abbrev c (n : Nat) : XC := d n (c1 n)
noncomputable def f (n : Nat) (a0 : Unit) (a1 : Int) : Option (List DRecord) :=
  bif (decide (a1 < (0 : Int))) then (none)
  else (bif (decide ((0 : Int) < (IntKind.i64.wrap (a1 - (IntKind.i64.wrap ((0 : Int) - (0 : Int))))))) then (sliceK 0 (0 : Int) 0 (geK (IntKind.i64.wrap (a1 - (IntKind.i64.wrap ((0 : Int) - (0 : Int))))) (appK 0 ((IntKind.i64.wrap (a1 - (IntKind.i64.wrap ((0 : Int) - (0 : Int)))))).toNat 88 (sliceK 0 (0 : Int) (List.replicate ((IntKind.i64.wrap (a1 - (IntKind.i64.wrap ((0 : Int) - (0 : Int)))))).toNat (((0 : Int), (0 : Int), (0 : Int), ([] : List Int), (0 : Int), ([] : List Int), (0 : Int), ([] : List Int), ()), (0 : Int), ())).length (j1 n ((List.replicate ((IntKind.i64.wrap (a1 - (IntKind.i64.wrap ((0 : Int) - (0 : Int)))))).toNat (((0 : Int), (0 : Int), (0 : Int), ([] : List Int), (0 : Int), ([] : List Int), (0 : Int), ([] : List Int), ()), (0 : Int), ())).take ((0 : Int)).toNat))))))
  else (j1 n ([] : List DRecord)))
theorem w (n : Nat) (a0 : Unit) (a1 : Int) (X1 : XC) : evFn (d n X1) rs ps r (a0, a1, ()) =
  (bif (decide (a1 < (0 : Int))) then (none)
  else (bif (decide ((0 : Int) < (IntKind.i64.wrap (a1 - (IntKind.i64.wrap ((0 : Int) - (0 : Int))))))) then (sliceK 0 (0 : Int) 0 (geK (IntKind.i64.wrap (a1 - (IntKind.i64.wrap ((0 : Int) - (0 : Int))))) (appK 0 ((IntKind.i64.wrap (a1 - (IntKind.i64.wrap ((0 : Int) - (0 : Int)))))).toNat 88 (sliceK 0 (0 : Int) (List.replicate ((IntKind.i64.wrap (a1 - (IntKind.i64.wrap ((0 : Int) - (0 : Int)))))).toNat (((0 : Int), (0 : Int), (0 : Int), ([] : List Int), (0 : Int), ([] : List Int), (0 : Int), ([] : List Int), ()), (0 : Int), ())).length (ev X1 (Z0 (((List.replicate ((IntKind.i64.wrap (a1 - (IntKind.i64.wrap ((0 : Int) - (0 : Int)))))).toNat (((0 : Int), (0 : Int), (0 : Int), ([] : List Int), (0 : Int), ([] : List Int), (0 : Int), ([] : List Int), ()), (0 : Int), ())).take ((0 : Int)).toNat) : List DRecord)) (E []) (retK rs ps r))))))
  else (ev X1 (Z0 (([] : List DRecord) : List DRecord)) (E []) (retK rs ps r))) : Option R) := by kernel_rfl
theorem ok (n : Nat) (a0 : Unit) (a1 : Int) : evFn (c n) rs ps r (a0, a1, ()) = f n a0 a1 := (w n a0 a1 (c1 n)).trans (by simp -implicitDefEqProofs only [f, s1 n] <;> kernel_rfl)
noncomputable def sp (n : Nat) : FSpec := { f := 48, ps := ps, r := r, run := fun x => f n x.1 x.2.1 }
theorem calls (n : Nat) : (c n).calls = [] := by kernel_rfl
theorem fits (n : Nat) : fnB tab hd Try.f48 (c n) rs (sp n).ps (sp n).r = true := by kernel_rfl
theorem sound (n : Nat) : Sound Try.prog (sp n) := by
  refine fnB_sound tabOk eqFacts mixed (fn := Try.f48) (c := c n) (rs := rs) (by kernel_rfl) ?_ (fits n) ?_
  · rw [calls]
    intro s hs; cases hs
  · rintro ⟨a0, a1, ⟨⟩⟩ y h
    exact (ok n a0 a1).trans h
theorem meets (n : Nat) : Meets Try.prog (sp n) := (sound n).meets
end slices_Grow
/-! slices.Concat[[]backwater/api.Record,backwater/api.Record] -/
namespace slices_Concat
abbrev ps : List (Ty × Bool) := [(.slB .U false (.slB .U false TRecord), false)]
abbrev r : Ty := .slX .U TRecord
abbrev rs : List RV := [.t 2]
abbrev R : Type := (rtOf ps r).den
abbrev Q : Type := St → Option R
abbrev E (l : List (Nat × Q)) : Ks R := ⟨retK rs ps r, l⟩
abbrev Z0 (x6 : Ty.den (.slX .U TRecord)) : St := [(6, some ⟨.slX .U TRecord, x6⟩)]
abbrev Z1 (x6 : Ty.den (.slX .U TRecord)) (x25 : Ty.den (.slB .U false (.slB .U false TRecord))) (x26 : Ty.den (.int .i64)) (x27 : Ty.den (.int .i64)) : St := [(6, some ⟨.slX .U TRecord, x6⟩), (25, some ⟨.slB .U false (.slB .U false TRecord), x25⟩), (26, some ⟨.int .i64, x26⟩), (27, some ⟨.int .i64, x27⟩)]
abbrev Z2 (x0 : Ty.den (.slB .U false (.slB .U false TRecord))) (x3 : Ty.den (.int .i64)) : St := [(0, some ⟨.slB .U false (.slB .U false TRecord), x0⟩), (3, some ⟨.int .i64, x3⟩)]
abbrev Z3 (x0 : Ty.den (.slB .U false (.slB .U false TRecord))) (x3 : Ty.den (.int .i64)) (x9 : Ty.den (.slB .U false (.slB .U false TRecord))) (x10 : Ty.den (.int .i64)) (x11 : Ty.den (.int .i64)) : St := [(0, some ⟨.slB .U false (.slB .U false TRecord), x0⟩), (3, some ⟨.int .i64, x3⟩), (9, some ⟨.slB .U false (.slB .U false TRecord), x9⟩), (10, some ⟨.int .i64, x10⟩), (11, some ⟨.int .i64, x11⟩)]
noncomputable def d2 (n : Nat) : XC :=
  (.seq (.reg (.op (.take 35 6) none <| .op (.take 2 35) none <| .nil)) <|
  .ret)
noncomputable abbrev c2 (n : Nat) : XC := d2 n
noncomputable def j2 (n : Nat) (x6 : List DRecord) : Option (List DRecord) :=
  some x6
theorem s2 (n : Nat) (x6 : List DRecord) : ev (c2 n) (Z0 x6) (E []) (retK rs ps r) = j2 n x6 := by kernel_rfl
noncomputable def H2 (n : Nat) (X : XC) : Q := fun st => ghK [.keep [6]] st fun st => ev X st (E []) (retK rs ps r)
noncomputable abbrev K2 (n : Nat) : Q := H2 n (c2 n)
noncomputable def Kb3 (Kr3 : Q) : Q := fun st => ghK [.keep [6, 25, 26, 27]] st Kr3
noncomputable def d4 (n : Nat) : XC :=
  (.aft (.reg (.op (.bin 34 .add (.t 27) (.c ⟨.int .i64, ((1 : Int) : Int)⟩)) none <| .op (.mv 27 (.t 34)) none <| .nil)) [.keep [6, 25, 26, 27]])
noncomputable abbrev c4 (n : Nat) : XC := d4 n
theorem qb3_0 (Kr3 : Q) (kr3 : (List DRecord) → (List (List DRecord)) → Int → Int → Option (List DRecord)) (hK3 : ∀ (x6 : List DRecord) (x25 : List (List DRecord)) (x26 : Int) (x27 : Int), Kr3 (Z1 x6 x25 x26 x27) = kr3 x6 x25 x26 x27) (x6 : List DRecord) (x25 : List (List DRecord)) (x26 : Int) (x27 : Int) : Kb3 Kr3 (Z1 x6 x25 x26 x27) = kr3 x6 x25 x26 x27 := (by kernel_rfl : _ = Kr3 (Z1 x6 x25 x26 x27)).trans (hK3 x6 x25 x26 x27)
noncomputable def j4 (n : Nat) (kr3 : (List DRecord) → (List (List DRecord)) → Int → Int → Option (List DRecord)) (x6 : List DRecord) (x25 : List (List DRecord)) (x26 : Int) (x27 : Int) : Option (List DRecord) :=
  kr3 x6 x25 x26 (IntKind.i64.wrap (x27 + (1 : Int)))
theorem w4 (n : Nat) (Kr3 : Q) (x6 : List DRecord) (x25 : List (List DRecord)) (x26 : Int) (x27 : Int) (K2 : Q) (Kb3 : Q) : ev (d4 n) (Z1 x6 x25 x26 x27) (E [(2, K2)]) Kb3 =
  (Kb3 (Z1 x6 x25 x26 (IntKind.i64.wrap (x27 + (1 : Int)))) : Option R) := by kernel_rfl
theorem s4 (n : Nat) (Kr3 : Q) (kr3 : (List DRecord) → (List (List DRecord)) → Int → Int → Option (List DRecord)) (hK3 : ∀ (x6 : List DRecord) (x25 : List (List DRecord)) (x26 : Int) (x27 : Int), Kr3 (Z1 x6 x25 x26 x27) = kr3 x6 x25 x26 x27) (x6 : List DRecord) (x25 : List (List DRecord)) (x26 : Int) (x27 : Int) : ev (c4 n) (Z1 x6 x25 x26 x27) (E [(2, (K2 n))]) (Kb3 Kr3) = j4 n kr3 x6 x25 x26 x27 := (w4 n Kr3 x6 x25 x26 x27 (K2 n) (Kb3 Kr3)).trans (by simp -implicitDefEqProofs only [j4, qb3_0 Kr3 kr3 hK3] <;> kernel_rfl)
noncomputable def H4 (n : Nat) (K2 : Q) (Kb3 : Q) (X : XC) : Q := fun st => ghK [.keep [6, 25, 26, 27]] st fun st => ev X st (E [(2, K2)]) Kb3
noncomputable abbrev K4 (n : Nat) (Kr3 : Q) : Q := H4 n (K2 n) (Kb3 Kr3) (c4 n)
noncomputable def db3 (n : Nat) (X4 : XC) : XC :=
  (.aft (.seq (.reg (.op (.bin 28 .lss (.t 27) (.t 26)) none <| .nil)) <|
  (.seq (.cond (.t 28)
  .skip
  (.pre [.keep [6]] (.exit 2))) <|
  (.seq (.aft (.block 3 (.seq (.reg (.op (.idxA 29 (.t 25) (.t 27) 1 0) none <| .op (.ld 30 29 1 false) none <| .op (.mv 8 (.t 30)) none <| .nil)) <|
  (.reg (.op (.take 31 6) none <| .op (.mv 32 (.t 8)) none <| .op (.app 33 31 (.t 32) 88 9) none <| .op (.take 6 33) none <| .nil)))) [.keep [6, 25, 26, 27]]) X4))) [.keep [6, 25, 26, 27]])
noncomputable abbrev cb3 (n : Nat) : XC := db3 n (c4 n)
theorem q2_0_r (n : Nat) (X : XC) (x6 : List DRecord) : H2 n X (Z0 x6) = (ev X (Z0 x6) (E []) (retK rs ps r) : Option R) := by kernel_rfl
theorem q2_0 (n : Nat) (x6 : List DRecord) : K2 n (Z0 x6) = j2 n x6 := (q2_0_r n (c2 n) x6).trans (s2 n x6)
noncomputable def l3 (n : Nat) : Nat → (List DRecord) → (List (List DRecord)) → Int → Int → Option (List DRecord)
  | 0, _, _, _, _ => none
  | k + 1, x6, x25, x26, x27 =>
  bif (decide (x27 < x26)) then (idxK x25 x27 fun e1 => appK x6.length e1.length 88 (j4 n (l3 n k) (x6 ++ e1) x25 x26 x27))
  else (j2 n x6)
theorem wb3 (n : Nat) (Kr3 : Q) (x6 : List DRecord) (x25 : List (List DRecord)) (x26 : Int) (x27 : Int) (K2 : Q) (X4 : XC) : ev (db3 n X4) (keepSt (Z1 x6 x25 x26 x27) [6, 25, 26, 27]) (E [(2, K2)]) Kr3 =
  (bif (decide (x27 < x26)) then (idxK x25 x27 fun e1 => appK x6.length e1.length 88 (ev X4 (Z1 ((x6 ++ e1) : List DRecord) x25 x26 x27) (E [(2, K2)]) (Kb3 Kr3)))
  else (K2 (Z0 x6)) : Option R) := by kernel_rfl
theorem l3_ok (n : Nat) (k : Nat) : ∀ (x6 : List DRecord) (x25 : List (List DRecord)) (x26 : Int) (x27 : Int), loopEv [6, 25, 26, 27] (fun s K => ev (cb3 n) s (E [(2, (K2 n))]) K) k (Z1 x6 x25 x26 x27) = l3 n k x6 x25 x26 x27 := by
  induction k with
  | zero => intros; rfl
  | succ k ih =>
    intro x6 x25 x26 x27
    exact (wb3 n (fun st => loopEv [6, 25, 26, 27] (fun s K => ev (cb3 n) s (E [(2, (K2 n))]) K) k st) x6 x25 x26 x27 (K2 n) (c4 n)).trans (by simp -implicitDefEqProofs only [l3, s4 n (fun st => loopEv [6, 25, 26, 27] (fun s K => ev (cb3 n) s (E [(2, (K2 n))]) K) k st) (l3 n k) ih, q2_0 n] <;> kernel_rfl)
noncomputable def d1 (n : Nat) (X2 Y3 : XC) : XC :=
  (.seq (.reg (.op (.mv 23 (.t 3)) none <| .op (.call (some 24) (slices_Grow.sp n) [.v (.c ⟨.nil 0, ()⟩), .v (.t 23)]) none <| .op (.take 6 24) none <| .nil)) <|
  (.seq (.aft (.seq (.reg (.op (.mv 25 (.t 0)) none <| .op (.len 26 (.t 25) false) none <| .op (.mv 27 (.c ⟨.int .i64, ((0 : Int) : Int)⟩)) none <| .nil)) <|
  (.block 2 (.pre [.keep [6, 25, 26, 27]] (.loop n [6, 25, 26, 27] Y3)))) [.keep [6]]) X2))
noncomputable abbrev c1 (n : Nat) : XC := d1 n (c2 n) (cb3 n)
noncomputable def j1 (n : Nat) (x0 : List (List DRecord)) (x3 : Int) : Option (List DRecord) :=
  (slices_Grow.f n () x3).bind fun r1 => l3 n n r1 x0 (x0.length : Int) (0 : Int)
theorem w1 (n : Nat) (x0 : List (List DRecord)) (x3 : Int) (X2 Y3 : XC) : ev (d1 n X2 Y3) (Z2 x0 x3) (E []) (retK rs ps r) =
  ((slices_Grow.f n () x3).bind fun r1 => loopEv [6, 25, 26, 27] (fun s K => ev Y3 s (E [(2, (H2 n X2))]) K) n (Z1 r1 x0 (x0.length : Int) (0 : Int)) : Option R) := by kernel_rfl
theorem s1 (n : Nat) (x0 : List (List DRecord)) (x3 : Int) : ev (c1 n) (Z2 x0 x3) (E []) (retK rs ps r) = j1 n x0 x3 := (w1 n x0 x3 (c2 n) (cb3 n)).trans (by simp -implicitDefEqProofs only [j1, l3_ok n] <;> kernel_rfl)
noncomputable def H1 (n : Nat) (X : XC) : Q := fun st => ghK [.keep [0, 3]] st fun st => ev X st (E []) (retK rs ps r)
noncomputable abbrev K1 (n : Nat) : Q := H1 n (c1 n)
noncomputable def Kb5 (Kr5 : Q) : Q := fun st => ghK [.keep [0, 3, 9, 10, 11]] st Kr5
noncomputable def d6 (n : Nat) : XC :=
  (.aft (.reg (.op (.bin 22 .add (.t 11) (.c ⟨.int .i64, ((1 : Int) : Int)⟩)) none <| .op (.mv 11 (.t 22)) none <| .nil)) [.keep [0, 3, 9, 10, 11]])
noncomputable abbrev c6 (n : Nat) : XC := d6 n
theorem qb5_0 (Kr5 : Q) (kr5 : (List (List DRecord)) → Int → (List (List DRecord)) → Int → Int → Option (List DRecord)) (hK5 : ∀ (x0 : List (List DRecord)) (x3 : Int) (x9 : List (List DRecord)) (x10 : Int) (x11 : Int), Kr5 (Z3 x0 x3 x9 x10 x11) = kr5 x0 x3 x9 x10 x11) (x0 : List (List DRecord)) (x3 : Int) (x9 : List (List DRecord)) (x10 : Int) (x11 : Int) : Kb5 Kr5 (Z3 x0 x3 x9 x10 x11) = kr5 x0 x3 x9 x10 x11 := (by kernel_rfl : _ = Kr5 (Z3 x0 x3 x9 x10 x11)).trans (hK5 x0 x3 x9 x10 x11)
noncomputable def j6 (n : Nat) (kr5 : (List (List DRecord)) → Int → (List (List DRecord)) → Int → Int → Option (List DRecord)) (x0 : List (List DRecord)) (x3 : Int) (x9 : List (List DRecord)) (x10 : Int) (x11 : Int) : Option (List DRecord) :=
  kr5 x0 x3 x9 x10 (IntKind.i64.wrap (x11 + (1 : Int)))
theorem w6 (n : Nat) (Kr5 : Q) (x0 : List (List DRecord)) (x3 : Int) (x9 : List (List DRecord)) (x10 : Int) (x11 : Int) (K1 : Q) (Kb5 : Q) : ev (d6 n) (Z3 x0 x3 x9 x10 x11) (E [(0, K1)]) Kb5 =
  (Kb5 (Z3 x0 x3 x9 x10 (IntKind.i64.wrap (x11 + (1 : Int)))) : Option R) := by kernel_rfl
theorem s6 (n : Nat) (Kr5 : Q) (kr5 : (List (List DRecord)) → Int → (List (List DRecord)) → Int → Int → Option (List DRecord)) (hK5 : ∀ (x0 : List (List DRecord)) (x3 : Int) (x9 : List (List DRecord)) (x10 : Int) (x11 : Int), Kr5 (Z3 x0 x3 x9 x10 x11) = kr5 x0 x3 x9 x10 x11) (x0 : List (List DRecord)) (x3 : Int) (x9 : List (List DRecord)) (x10 : Int) (x11 : Int) : ev (c6 n) (Z3 x0 x3 x9 x10 x11) (E [(0, (K1 n))]) (Kb5 Kr5) = j6 n kr5 x0 x3 x9 x10 x11 := (w6 n Kr5 x0 x3 x9 x10 x11 (K1 n) (Kb5 Kr5)).trans (by simp -implicitDefEqProofs only [j6, qb5_0 Kr5 kr5 hK5] <;> kernel_rfl)
noncomputable def H6 (n : Nat) (K1 : Q) (Kb5 : Q) (X : XC) : Q := fun st => ghK [.keep [0, 3, 9, 10, 11]] st fun st => ev X st (E [(0, K1)]) Kb5
noncomputable abbrev K6 (n : Nat) (Kr5 : Q) : Q := H6 n (K1 n) (Kb5 Kr5) (c6 n)
noncomputable def db5 (n : Nat) (X6 : XC) : XC :=
  (.aft (.seq (.reg (.op (.bin 12 .lss (.t 11) (.t 10)) none <| .nil)) <|
  (.seq (.cond (.t 12)
  .skip
  (.pre [.keep [0, 3]] (.exit 0))) <|
  (.seq (.aft (.block 1 (.seq (.reg (.op (.idxA 13 (.t 9) (.t 11) 1 0) none <| .op (.ld 14 13 1 false) none <| .op (.mv 5 (.t 14)) none <| .nil)) <|
  (.seq (.reg (.op (.mv 15 (.t 3)) none <| .op (.mv 16 (.t 5)) none <| .op (.len 17 (.t 16) false) none <| .op (.bin 18 .add (.t 15) (.t 17)) none <| .op (.mv 3 (.t 18)) none <| .nil)) <|
  (.seq (.reg (.op (.mv 19 (.t 3)) none <| .op (.bin 20 .lss (.t 19) (.c ⟨.int .i64, ((0 : Int) : Int)⟩)) none <| .nil)) <|
  (.cond (.t 20)
  .dead
  .skip))))) [.keep [0, 3, 9, 10, 11]]) X6))) [.keep [0, 3, 9, 10, 11]])
noncomputable abbrev cb5 (n : Nat) : XC := db5 n (c6 n)
theorem q1_0_r (n : Nat) (X : XC) (x0 : List (List DRecord)) (x3 : Int) : H1 n X (Z2 x0 x3) = (ev X (Z2 x0 x3) (E []) (retK rs ps r) : Option R) := by kernel_rfl
theorem q1_0 (n : Nat) (x0 : List (List DRecord)) (x3 : Int) : K1 n (Z2 x0 x3) = j1 n x0 x3 := (q1_0_r n (c1 n) x0 x3).trans (s1 n x0 x3)
noncomputable def l5 (n : Nat) : Nat → (List (List DRecord)) → Int → (List (List DRecord)) → Int → Int → Option (List DRecord)
  | 0, _, _, _, _, _ => none
  | k + 1, x0, x3, x9, x10, x11 =>
  bif (decide (x11 < x10)) then (idxK x9 x11 fun e1 => bif (decide ((IntKind.i64.wrap (x3 + (e1.length : Int))) < (0 : Int))) then (none)
  else (j6 n (l5 n k) x0 (IntKind.i64.wrap (x3 + (e1.length : Int))) x9 x10 x11))
  else (j1 n x0 x3)
theorem wb5 (n : Nat) (Kr5 : Q) (x0 : List (List DRecord)) (x3 : Int) (x9 : List (List DRecord)) (x10 : Int) (x11 : Int) (K1 : Q) (X6 : XC) : ev (db5 n X6) (keepSt (Z3 x0 x3 x9 x10 x11) [0, 3, 9, 10, 11]) (E [(0, K1)]) Kr5 =
  (bif (decide (x11 < x10)) then (idxK x9 x11 fun e1 => bif (decide ((IntKind.i64.wrap (x3 + (e1.length : Int))) < (0 : Int))) then (none)
  else (ev X6 (Z3 x0 (IntKind.i64.wrap (x3 + (e1.length : Int))) x9 x10 x11) (E [(0, K1)]) (Kb5 Kr5)))
  else (K1 (Z2 x0 x3)) : Option R) := by kernel_rfl
theorem l5_ok (n : Nat) (k : Nat) : ∀ (x0 : List (List DRecord)) (x3 : Int) (x9 : List (List DRecord)) (x10 : Int) (x11 : Int), loopEv [0, 3, 9, 10, 11] (fun s K => ev (cb5 n) s (E [(0, (K1 n))]) K) k (Z3 x0 x3 x9 x10 x11) = l5 n k x0 x3 x9 x10 x11 := by
  induction k with
  | zero => intros; rfl
  | succ k ih =>
    intro x0 x3 x9 x10 x11
    exact (wb5 n (fun st => loopEv [0, 3, 9, 10, 11] (fun s K => ev (cb5 n) s (E [(0, (K1 n))]) K) k st) x0 x3 x9 x10 x11 (K1 n) (c6 n)).trans (by simp -implicitDefEqProofs only [l5, s6 n (fun st => loopEv [0, 3, 9, 10, 11] (fun s K => ev (cb5 n) s (E [(0, (K1 n))]) K) k st) (l5 n k) ih, q1_0 n] <;> kernel_rfl)
noncomputable def d (n : Nat) (X1 Y5 : XC) : XC :=
  (.seq (.reg (.op (.mv 2 (.c ⟨.nil 0, ()⟩)) none <| .nil)) <|
  (.seq (.reg (.op (.mv 3 (.c ⟨.int .i64, ((0 : Int) : Int)⟩)) none <| .nil)) <|
  (.seq (.aft (.seq (.reg (.op (.mv 9 (.t 0)) none <| .op (.len 10 (.t 9) false) none <| .op (.mv 11 (.c ⟨.int .i64, ((0 : Int) : Int)⟩)) none <| .nil)) <|
  (.block 0 (.pre [.keep [0, 3, 9, 10, 11]] (.loop n [0, 3, 9, 10, 11] Y5)))) [.keep [0, 3]]) X1)))
noncomputable abbrev c (n : Nat) : XC := d n (c1 n) (cb5 n)
noncomputable def f (n : Nat) (a0 : List (List DRecord)) : Option (List DRecord) :=
  l5 n n a0 (0 : Int) a0 (a0.length : Int) (0 : Int)
theorem w (n : Nat) (a0 : List (List DRecord)) (X1 Y5 : XC) : evFn (d n X1 Y5) rs ps r (a0, ()) =
  (loopEv [0, 3, 9, 10, 11] (fun s K => ev Y5 s (E [(0, (H1 n X1))]) K) n (Z3 a0 (0 : Int) a0 (a0.length : Int) (0 : Int)) : Option R) := by kernel_rfl
theorem ok (n : Nat) (a0 : List (List DRecord)) : evFn (c n) rs ps r (a0, ()) = f n a0 := (w n a0 (c1 n) (cb5 n)).trans (by simp -implicitDefEqProofs only [f, l5_ok n] <;> kernel_rfl)
noncomputable def sp (n : Nat) : FSpec := { f := 34, ps := ps, r := r, run := fun x => f n x.1 }
theorem calls (n : Nat) : (c n).calls = [slices_Grow.sp n] := by kernel_rfl
theorem fits (n : Nat) : fnB tab hd Try.f34 (c n) rs (sp n).ps (sp n).r = true := by kernel_rfl
theorem sound (n : Nat) : Sound Try.prog (sp n) := by
  refine fnB_sound tabOk eqFacts mixed (fn := Try.f34) (c := c n) (rs := rs) (by kernel_rfl) ?_ (fits n) ?_
  · rw [calls]
    intro s hs
    simp only [List.mem_cons, List.not_mem_nil, or_false] at hs
    rcases hs with rfl
    · exact slices_Grow.meets n
  · rintro ⟨a0, ⟨⟩⟩ y h
    exact (ok n a0).trans h
theorem meets (n : Nat) : Meets Try.prog (sp n) := (sound n).meets
end slices_Concat
/-! backwater/cml.Optimise -/
namespace cml_Optimise
abbrev ps : List (Ty × Bool) := [(.slB .U false TRecord, false)]
abbrev r : Ty := .slX .U TRecord
abbrev rs : List RV := [.t 2]
abbrev R : Type := (rtOf ps r).den
abbrev Q : Type := St → Option R
abbrev E (l : List (Nat × Q)) : Ks R := ⟨retK rs ps r, l⟩
abbrev Z0 (x8 : Ty.den (.slX .U TRecord)) : St := [(8, some ⟨.slX .U TRecord, x8⟩)]
abbrev Z1 (x8 : Ty.den (.slX .U TRecord)) (x13 : Ty.den (.int .i64)) (x14 : Ty.den (.int .i64)) (x15 : Ty.den (.bool)) : St := [(8, some ⟨.slX .U TRecord, x8⟩), (13, some ⟨.int .i64, x13⟩), (14, some ⟨.int .i64, x14⟩), (15, some ⟨.bool, x15⟩)]
abbrev Z2 (x8 : Ty.den (.slX .N TRecord)) : St := [(8, some ⟨.slX .N TRecord, x8⟩)]
abbrev Z3 (x3 : Ty.den (.map Tcontent (.int .i64))) (x8 : Ty.den (.slX .N TRecord)) (x36 : Ty.den (.slB .U false TRecord)) (x37 : Ty.den (.int .i64)) (x38 : Ty.den (.int .i64)) : St := [(3, some ⟨.map Tcontent (.int .i64), x3⟩), (8, some ⟨.slX .N TRecord, x8⟩), (36, some ⟨.slB .U false TRecord, x36⟩), (37, some ⟨.int .i64, x37⟩), (38, some ⟨.int .i64, x38⟩)]
abbrev Z4 (x0 : Ty.den (.slB .U false TRecord)) (x3 : Ty.den (.map Tcontent (.int .i64))) : St := [(0, some ⟨.slB .U false TRecord, x0⟩), (3, some ⟨.map Tcontent (.int .i64), x3⟩)]
abbrev Z5 (x0 : Ty.den (.slB .U false TRecord)) (x3 : Ty.den (.map Tcontent (.int .i64))) (x19 : Ty.den (.slB .U false TRecord)) (x20 : Ty.den (.int .i64)) (x21 : Ty.den (.int .i64)) : St := [(0, some ⟨.slB .U false TRecord, x0⟩), (3, some ⟨.map Tcontent (.int .i64), x3⟩), (19, some ⟨.slB .U false TRecord, x19⟩), (20, some ⟨.int .i64, x20⟩), (21, some ⟨.int .i64, x21⟩)]
noncomputable def d3 (n : Nat) : XC :=
  (.seq (.reg (.op (.take 99 8) none <| .op (.take 2 99) none <| .nil)) <|
  .ret)
noncomputable abbrev c3 (n : Nat) : XC := d3 n
noncomputable def j3 (n : Nat) (x8 : List DRecord) : Option (List DRecord) :=
  some x8
theorem s3 (n : Nat) (x8 : List DRecord) : ev (c3 n) (Z0 x8) (E []) (retK rs ps r) = j3 n x8 := by kernel_rfl
noncomputable def H3 (n : Nat) (X : XC) : Q := fun st => ghK [.keep [8]] st fun st => ev X st (E []) (retK rs ps r)
noncomputable abbrev K3 (n : Nat) : Q := H3 n (c3 n)
noncomputable def Kb4 (Kr4 : Q) : Q := fun st => ghK [.keep [8, 13, 14, 15]] st Kr4
noncomputable def d5 (n : Nat) : XC :=
  (.aft (.reg (.op (.bor 70 8) none <| .op (.call (some 71) (cml_pair.sp n) [.v (.t 70)]) none <| .op (.take 69 71) none <| .op (.ext 72 69 0) none <| .op (.ext 73 69 1) none <| .op (.ext 74 69 2) none <| .op (.mv 13 (.t 72)) none <| .op (.mv 14 (.t 73)) none <| .op (.mv 15 (.t 74)) none <| .nil)) [.keep [8, 13, 14, 15]])
noncomputable abbrev c5 (n : Nat) : XC := d5 n
theorem qb4_0 (Kr4 : Q) (kr4 : (List DRecord) → Int → Int → Bool → Option (List DRecord)) (hK4 : ∀ (x8 : List DRecord) (x13 : Int) (x14 : Int) (x15 : Bool), Kr4 (Z1 x8 x13 x14 x15) = kr4 x8 x13 x14 x15) (x8 : List DRecord) (x13 : Int) (x14 : Int) (x15 : Bool) : Kb4 Kr4 (Z1 x8 x13 x14 x15) = kr4 x8 x13 x14 x15 := (by kernel_rfl : _ = Kr4 (Z1 x8 x13 x14 x15)).trans (hK4 x8 x13 x14 x15)
noncomputable def j5 (n : Nat) (kr4 : (List DRecord) → Int → Int → Bool → Option (List DRecord)) (x8 : List DRecord) : Option (List DRecord) :=
  (cml_pair.f n x8).bind fun r1 => kr4 x8 r1.1 r1.2.1 r1.2.2.1
theorem w5 (n : Nat) (Kr4 : Q) (x8 : List DRecord) (K3 : Q) (Kb4 : Q) : ev (d5 n) (Z0 x8) (E [(4, K3)]) Kb4 =
  ((cml_pair.f n x8).bind fun r1 => Kb4 (Z1 x8 r1.1 r1.2.1 r1.2.2.1) : Option R) := by kernel_rfl
theorem s5 (n : Nat) (Kr4 : Q) (kr4 : (List DRecord) → Int → Int → Bool → Option (List DRecord)) (hK4 : ∀ (x8 : List DRecord) (x13 : Int) (x14 : Int) (x15 : Bool), Kr4 (Z1 x8 x13 x14 x15) = kr4 x8 x13 x14 x15) (x8 : List DRecord) : ev (c5 n) (Z0 x8) (E [(4, (K3 n))]) (Kb4 Kr4) = j5 n kr4 x8 := (w5 n Kr4 x8 (K3 n) (Kb4 Kr4)).trans (by simp -implicitDefEqProofs only [j5, qb4_0 Kr4 kr4 hK4] <;> kernel_rfl)
noncomputable def H5 (n : Nat) (K3 : Q) (Kb4 : Q) (X : XC) : Q := fun st => ghK [.keep [8]] st fun st => ev X st (E [(4, K3)]) Kb4
noncomputable abbrev K5 (n : Nat) (Kr4 : Q) : Q := H5 n (K3 n) (Kb4 Kr4) (c5 n)
noncomputable def db4 (n : Nat) (X5 : XC) : XC :=
  (.aft (.seq (.seq (.reg (.op (.mv 68 (.t 15)) none <| .nil)) <|
  (.cond (.t 68)
  .skip
  (.pre [.keep [8]] (.exit 4)))) <|
  (.seq (.aft (.block 5 (.seq (.reg (.op (.bor 75 8) none <| .op (.mv 76 (.t 13)) none <| .op (.idxA 77 (.t 75) (.t 76) 9 0) none <| .op (.fa 78 77 0 0) none <| .op (.fa 79 78 1 1) none <| .op (.ld 80 79 1 false) none <| .op (.alloc 16 ⟨.int .u32, ((0 : Int) : Int)⟩) none <| .op (.st 16 (.t 80) 1) none <| .nil)) <|
  (.seq (.reg (.op (.frz 81 8) none <| .op (.mv 82 (.t 13)) none <| .op (.bin 83 .add (.t 82) (.c ⟨.int .i64, ((1 : Int) : Int)⟩)) none <| .op (.mv 84 (.t 14)) none <| .op (.slc 85 (.t 81) (some (.t 83)) (some (.t 84)) none 9) none <| .op (.call (some 86) (slices_Clone.sp n) [.v (.t 85)]) none <| .op (.mkfn 87 33 [((.t 16), true)]) none <| .op (.call (some 88) (slices_DeleteFunc_31.sp n) [.k 86, .v (.t 87)]) none <| .op (.frz 17 88) none <| .nil)) <|
  (.pre [.keep [8, 13, 14, 17]] (.regD (.op (.mv 89 (.t 8)) (some ([8, 89], [89])) <| .op (.mv 90 (.t 13)) (some ([13, 90], [90])) <| .op (.slc 91 (.t 89) none (some (.t 90)) none 9) (some ([89, 90, 91], [91])) <| .op (.mv 92 (.t 17)) (some ([17, 92], [92])) <| .op (.mv 93 (.t 8)) (some ([8, 93], [93])) <| .op (.mv 94 (.t 14)) (some ([14, 94], [94])) <| .op (.bin 95 .add (.t 94) (.c ⟨.int .i64, ((1 : Int) : Int)⟩)) (some ([94, 95], [95])) <| .op (.slc 96 (.t 93) (some (.t 95)) none none 9) (some ([93, 95, 96], [96])) <| .op (.bsl 97 (.slB .U false TRecord) [(.t 91), (.t 92), (.t 96)]) (some ([91, 92, 96, 97], [97])) <| .op (.call (some 98) (slices_Concat.sp n) [.v (.t 97)]) (some ([97, 98], [98])) <| .op (.take 8 98) (some ([8, 98], [8, 98])) <| .nil)))))) [.keep [8]]) X5)) [.keep [8, 13, 14, 15]])
noncomputable abbrev cb4 (n : Nat) : XC := db4 n (c5 n)
theorem q3_0_r (n : Nat) (X : XC) (x8 : List DRecord) : H3 n X (Z0 x8) = (ev X (Z0 x8) (E []) (retK rs ps r) : Option R) := by kernel_rfl
theorem q3_0 (n : Nat) (x8 : List DRecord) : K3 n (Z0 x8) = j3 n x8 := (q3_0_r n (c3 n) x8).trans (s3 n x8)
noncomputable def l4 (n : Nat) : Nat → (List DRecord) → Int → Int → Bool → Option (List DRecord)
  | 0, _, _, _, _ => none
  | k + 1, x8, x13, x14, x15 =>
  bif x15 then (idxK x8 x13 fun e1 => sliceK (IntKind.i64.wrap (x13 + (1 : Int))) x14 x8.length ((slices_Clone.f n (cut x8 (IntKind.i64.wrap (x13 + (1 : Int))) x14)).bind fun r2 => (slices_DeleteFunc_31.f n r2 (e1.1.2.1, ())).bind fun r3 => sliceK 0 x13 x8.length (sliceK (IntKind.i64.wrap (x14 + (1 : Int))) (x8.length : Int) x8.length ((slices_Concat.f n ([(cut x8 0 x13), r3, (cut x8 (IntKind.i64.wrap (x14 + (1 : Int))) (x8.length : Int))] : List (List DRecord))).bind fun r4 => j5 n (l4 n k) r4))))
  else (j3 n x8)
theorem wb4 (n : Nat) (Kr4 : Q) (x8 : List DRecord) (x13 : Int) (x14 : Int) (x15 : Bool) (K3 : Q) (X5 : XC) : ev (db4 n X5) (keepSt (Z1 x8 x13 x14 x15) [8, 13, 14, 15]) (E [(4, K3)]) Kr4 =
  (bif x15 then (idxK x8 x13 fun e1 => sliceK (IntKind.i64.wrap (x13 + (1 : Int))) x14 x8.length ((slices_Clone.f n (cut x8 (IntKind.i64.wrap (x13 + (1 : Int))) x14)).bind fun r2 => (slices_DeleteFunc_31.f n r2 (e1.1.2.1, ())).bind fun r3 => sliceK 0 x13 x8.length (sliceK (IntKind.i64.wrap (x14 + (1 : Int))) (x8.length : Int) x8.length ((slices_Concat.f n ([(cut x8 0 x13), r3, (cut x8 (IntKind.i64.wrap (x14 + (1 : Int))) (x8.length : Int))] : List (List DRecord))).bind fun r4 => ev X5 (Z0 r4) (E [(4, K3)]) (Kb4 Kr4)))))
  else (K3 (Z0 x8)) : Option R) := by kernel_rfl
theorem l4_ok (n : Nat) (k : Nat) : ∀ (x8 : List DRecord) (x13 : Int) (x14 : Int) (x15 : Bool), loopEv [8, 13, 14, 15] (fun s K => ev (cb4 n) s (E [(4, (K3 n))]) K) k (Z1 x8 x13 x14 x15) = l4 n k x8 x13 x14 x15 := by
  induction k with
  | zero => intros; rfl
  | succ k ih =>
    intro x8 x13 x14 x15
    exact (wb4 n (fun st => loopEv [8, 13, 14, 15] (fun s K => ev (cb4 n) s (E [(4, (K3 n))]) K) k st) x8 x13 x14 x15 (K3 n) (c5 n)).trans (by simp -implicitDefEqProofs only [l4, s5 n (fun st => loopEv [8, 13, 14, 15] (fun s K => ev (cb4 n) s (E [(4, (K3 n))]) K) k st) (l4 n k) ih, q3_0 n] <;> kernel_rfl)
noncomputable def d2 (n : Nat) (X3 Y4 : XC) : XC :=
  (.seq (.aft (.seq (.reg (.op (.bor 63 8) none <| .op (.call (some 64) (cml_pair.sp n) [.v (.t 63)]) none <| .op (.take 62 64) none <| .op (.ext 65 62 0) none <| .op (.ext 66 62 1) none <| .op (.ext 67 62 2) none <| .op (.mv 13 (.t 65)) none <| .op (.mv 14 (.t 66)) none <| .op (.mv 15 (.t 67)) none <| .nil)) <|
  (.block 4 (.pre [.coe 8 (.slX .U TRecord), .keep [8, 13, 14, 15]] (.loop n [8, 13, 14, 15] Y4)))) [.keep [8]]) X3)
noncomputable abbrev c2 (n : Nat) : XC := d2 n (c3 n) (cb4 n)
noncomputable def j2 (n : Nat) (x8 : List DRecord) : Option (List DRecord) :=
  (cml_pair.f n x8).bind fun r1 => l4 n n x8 r1.1 r1.2.1 r1.2.2.1
theorem w2 (n : Nat) (x8 : List DRecord) (X3 Y4 : XC) : ev (d2 n X3 Y4) (Z2 x8) (E []) (retK rs ps r) =
  ((cml_pair.f n x8).bind fun r1 => loopEv [8, 13, 14, 15] (fun s K => ev Y4 s (E [(4, (H3 n X3))]) K) n (Z1 x8 r1.1 r1.2.1 r1.2.2.1) : Option R) := by kernel_rfl
theorem s2 (n : Nat) (x8 : List DRecord) : ev (c2 n) (Z2 x8) (E []) (retK rs ps r) = j2 n x8 := (w2 n x8 (c3 n) (cb4 n)).trans (by simp -implicitDefEqProofs only [j2, l4_ok n] <;> kernel_rfl)
noncomputable def H2 (n : Nat) (X : XC) : Q := fun st => ghK [.keep [8]] st fun st => ev X st (E []) (retK rs ps r)
noncomputable abbrev K2 (n : Nat) : Q := H2 n (c2 n)
noncomputable def Kb6 (Kr6 : Q) : Q := fun st => ghK [.keep [3, 8, 36, 37, 38]] st Kr6
noncomputable def d7 (n : Nat) : XC :=
  (.aft (.reg (.op (.bin 61 .add (.t 38) (.c ⟨.int .i64, ((1 : Int) : Int)⟩)) none <| .op (.mv 38 (.t 61)) none <| .nil)) [.keep [3, 8, 36, 37, 38]])
noncomputable abbrev c7 (n : Nat) : XC := d7 n
theorem qb6_0 (Kr6 : Q) (kr6 : (List (Dcontent × Int)) → (List DRecord) → (List DRecord) → Int → Int → Option (List DRecord)) (hK6 : ∀ (x3 : List (Dcontent × Int)) (x8 : List DRecord) (x36 : List DRecord) (x37 : Int) (x38 : Int), Kr6 (Z3 x3 x8 x36 x37 x38) = kr6 x3 x8 x36 x37 x38) (x3 : List (Dcontent × Int)) (x8 : List DRecord) (x36 : List DRecord) (x37 : Int) (x38 : Int) : Kb6 Kr6 (Z3 x3 x8 x36 x37 x38) = kr6 x3 x8 x36 x37 x38 := (by kernel_rfl : _ = Kr6 (Z3 x3 x8 x36 x37 x38)).trans (hK6 x3 x8 x36 x37 x38)
noncomputable def j7 (n : Nat) (kr6 : (List (Dcontent × Int)) → (List DRecord) → (List DRecord) → Int → Int → Option (List DRecord)) (x3 : List (Dcontent × Int)) (x8 : List DRecord) (x36 : List DRecord) (x37 : Int) (x38 : Int) : Option (List DRecord) :=
  kr6 x3 x8 x36 x37 (IntKind.i64.wrap (x38 + (1 : Int)))
theorem w7 (n : Nat) (Kr6 : Q) (x3 : List (Dcontent × Int)) (x8 : List DRecord) (x36 : List DRecord) (x37 : Int) (x38 : Int) (K2 : Q) (Kb6 : Q) : ev (d7 n) (Z3 x3 x8 x36 x37 x38) (E [(2, K2)]) Kb6 =
  (Kb6 (Z3 x3 x8 x36 x37 (IntKind.i64.wrap (x38 + (1 : Int)))) : Option R) := by kernel_rfl
theorem s7 (n : Nat) (Kr6 : Q) (kr6 : (List (Dcontent × Int)) → (List DRecord) → (List DRecord) → Int → Int → Option (List DRecord)) (hK6 : ∀ (x3 : List (Dcontent × Int)) (x8 : List DRecord) (x36 : List DRecord) (x37 : Int) (x38 : Int), Kr6 (Z3 x3 x8 x36 x37 x38) = kr6 x3 x8 x36 x37 x38) (x3 : List (Dcontent × Int)) (x8 : List DRecord) (x36 : List DRecord) (x37 : Int) (x38 : Int) : ev (c7 n) (Z3 x3 x8 x36 x37 x38) (E [(2, (K2 n))]) (Kb6 Kr6) = j7 n kr6 x3 x8 x36 x37 x38 := (w7 n Kr6 x3 x8 x36 x37 x38 (K2 n) (Kb6 Kr6)).trans (by simp -implicitDefEqProofs only [j7, qb6_0 Kr6 kr6 hK6] <;> kernel_rfl)
noncomputable def H7 (n : Nat) (K2 : Q) (Kb6 : Q) (X : XC) : Q := fun st => ghK [.keep [3, 8, 36, 37, 38]] st fun st => ev X st (E [(2, K2)]) Kb6
noncomputable abbrev K7 (n : Nat) (Kr6 : Q) : Q := H7 n (K2 n) (Kb6 Kr6) (c7 n)
noncomputable def db6 (n : Nat) (X7 : XC) : XC :=
  (.aft (.seq (.reg (.op (.bin 39 .lss (.t 38) (.t 37)) none <| .nil)) <|
  (.seq (.cond (.t 39)
  .skip
  (.pre [.keep [8]] (.exit 2))) <|
  (.seq (.aft (.block 3 (.seq (.reg (.op (.mv 40 (.t 38)) none <| .op (.idxA 41 (.t 36) (.t 38) 9 0) none <| .op (.ld 42 41 9 true) none <| .op (.alloc 10 ⟨TRecord, ((((0 : Int), (0 : Int), (0 : Int), ([] : List Int), (0 : Int), ([] : List Int), (0 : Int), ([] : List Int), ()), (0 : Int), ()) : DRecord)⟩) none <| .op (.mv 9 (.t 40)) none <| .op (.st 10 (.t 42) 9) none <| .nil)) <|
  (.seq (.reg (.op (.ld 44 10 9 true) none <| .op (.call (some 45) (cml_of.sp n) [.v (.t 44)]) none <| .op (.take 43 45) none <| .op (.ext 46 43 0) none <| .op (.ext 47 43 1) none <| .op (.alloc 11 ⟨Tcontent, (((0 : Int), (0 : Int), ()) : Dcontent)⟩) none <| .op (.st 11 (.t 46) 2) none <| .op (.mv 12 (.t 47)) none <| .nil)) <|
  (.seq (.reg (.op (.mv 48 (.t 12)) none <| .op (.un 49 .not (.t 48)) none <| .op (.mv 50 (.t 49)) none <| .grp 50 false (.op (.alsM 51 3) (some ([3, 50, 51], [51])) <| .op (.ld 52 11 2 true) (some ([11, 50, 52], [52])) <| .op (.mget 53 51 (.t 52) Tcontent ⟨.int .i64, ((0 : Int) : Int)⟩) (some ([3, 50, 51, 52, 53], [53])) <| .op (.mv 54 (.t 9)) (some ([9, 50, 54], [54])) <| .op (.bin 55 .eql (.t 53) (.t 54)) (some ([50, 53, 54, 55], [55])) <| .nil) 55 56 [51, 52, 53, 54, 55] <| .nil)) <|
  (.cond (.t 56)
  (.pre [.keep [3, 8, 10, 36, 37, 38]] (.reg (.op (.take 57 8) none <| .op (.ld 58 10 9 true) none <| .op (.bsl 59 TRecord [(.t 58)]) none <| .op (.app 60 57 (.t 59) 88 9) none <| .op (.take 8 60) none <| .nil)))
  .skip))))) [.keep [3, 8, 36, 37, 38]]) X7))) [.keep [3, 8, 36, 37, 38]])
noncomputable abbrev cb6 (n : Nat) : XC := db6 n (c7 n)
theorem q2_0_r (n : Nat) (X : XC) (x8 : List DRecord) : H2 n X (Z2 x8) = (ev X (Z2 x8) (E []) (retK rs ps r) : Option R) := by kernel_rfl
theorem q2_0 (n : Nat) (x8 : List DRecord) : K2 n (Z2 x8) = j2 n x8 := (q2_0_r n (c2 n) x8).trans (s2 n x8)
noncomputable def l6 (n : Nat) : Nat → (List (Dcontent × Int)) → (List DRecord) → (List DRecord) → Int → Int → Option (List DRecord)
  | 0, _, _, _, _, _ => none
  | k + 1, x3, x8, x36, x37, x38 =>
  bif (decide (x38 < x37)) then (idxK x36 x38 fun e1 => (cml_of.f n ((e1.1.1, e1.1.2.1, e1.1.2.2.1, e1.1.2.2.2.1, e1.1.2.2.2.2.1, e1.1.2.2.2.2.2.1, e1.1.2.2.2.2.2.2.1, e1.1.2.2.2.2.2.2.2.1, e1.1.2.2.2.2.2.2.2.2), e1.2.1, e1.2.2)).bind fun r2 => (bif (!r2.2.1) then some true else (optM (mapGet1 (r2.1 : Dcontent) x3) (some (decide ((0 : Int) = x38))) fun m4 => some (decide (m4 = x38)))).bind fun g3 =>
  bif g3 then (appK x8.length ([e1] : List DRecord).length 88 (j7 n (l6 n k) x3 (x8 ++ ([e1] : List DRecord)) x36 x37 x38))
  else (j7 n (l6 n k) x3 x8 x36 x37 x38))
  else (j2 n x8)
theorem wb6 (n : Nat) (Kr6 : Q) (x3 : List (Dcontent × Int)) (x8 : List DRecord) (x36 : List DRecord) (x37 : Int) (x38 : Int) (K2 : Q) (X7 : XC) : ev (db6 n X7) (keepSt (Z3 x3 x8 x36 x37 x38) [3, 8, 36, 37, 38]) (E [(2, K2)]) Kr6 =
  (bif (decide (x38 < x37)) then (idxK x36 x38 fun e1 => (cml_of.f n ((e1.1.1, e1.1.2.1, e1.1.2.2.1, e1.1.2.2.2.1, e1.1.2.2.2.2.1, e1.1.2.2.2.2.2.1, e1.1.2.2.2.2.2.2.1, e1.1.2.2.2.2.2.2.2.1, e1.1.2.2.2.2.2.2.2.2), e1.2.1, e1.2.2)).bind fun r2 => (bif (!r2.2.1) then some true else (optM (mapGet1 (r2.1 : Dcontent) x3) (some (decide ((0 : Int) = x38))) fun m4 => some (decide (m4 = x38)))).bind fun g3 =>
  bif g3 then (appK x8.length ([e1] : List DRecord).length 88 (ev X7 (Z3 x3 ((x8 ++ ([e1] : List DRecord)) : List DRecord) x36 x37 x38) (E [(2, K2)]) (Kb6 Kr6)))
  else (ev X7 (Z3 x3 x8 x36 x37 x38) (E [(2, K2)]) (Kb6 Kr6)))
  else (K2 (Z2 x8)) : Option R) := by kernel_rfl
theorem l6_ok (n : Nat) (k : Nat) : ∀ (x3 : List (Dcontent × Int)) (x8 : List DRecord) (x36 : List DRecord) (x37 : Int) (x38 : Int), loopEv [3, 8, 36, 37, 38] (fun s K => ev (cb6 n) s (E [(2, (K2 n))]) K) k (Z3 x3 x8 x36 x37 x38) = l6 n k x3 x8 x36 x37 x38 := by
  induction k with
  | zero => intros; rfl
  | succ k ih =>
    intro x3 x8 x36 x37 x38
    exact (wb6 n (fun st => loopEv [3, 8, 36, 37, 38] (fun s K => ev (cb6 n) s (E [(2, (K2 n))]) K) k st) x3 x8 x36 x37 x38 (K2 n) (c7 n)).trans (by simp -implicitDefEqProofs only [l6, s7 n (fun st => loopEv [3, 8, 36, 37, 38] (fun s K => ev (cb6 n) s (E [(2, (K2 n))]) K) k st) (l6 n k) ih, q2_0 n] <;> kernel_rfl)
noncomputable def d1 (n : Nat) (X2 Y6 : XC) : XC :=
  (.seq (.reg (.op (.mv 8 (.c ⟨.nil 0, ()⟩)) none <| .nil)) <|
  (.seq (.aft (.seq (.reg (.op (.mv 36 (.t 0)) none <| .op (.len 37 (.t 36) false) none <| .op (.mv 38 (.c ⟨.int .i64, ((0 : Int) : Int)⟩)) none <| .nil)) <|
  (.block 2 (.pre [.coe 8 (.slX .N TRecord), .keep [3, 8, 36, 37, 38]] (.loop n [3, 8, 36, 37, 38] Y6)))) [.keep [8]]) X2))
noncomputable abbrev c1 (n : Nat) : XC := d1 n (c2 n) (cb6 n)
noncomputable def j1 (n : Nat) (x0 : List DRecord) (x3 : List (Dcontent × Int)) : Option (List DRecord) :=
  l6 n n x3 ([] : List DRecord) x0 (x0.length : Int) (0 : Int)
theorem w1 (n : Nat) (x0 : List DRecord) (x3 : List (Dcontent × Int)) (X2 Y6 : XC) : ev (d1 n X2 Y6) (Z4 x0 x3) (E []) (retK rs ps r) =
  (loopEv [3, 8, 36, 37, 38] (fun s K => ev Y6 s (E [(2, (H2 n X2))]) K) n (Z3 x3 (([] : List DRecord) : List DRecord) x0 (x0.length : Int) (0 : Int)) : Option R) := by kernel_rfl
theorem s1 (n : Nat) (x0 : List DRecord) (x3 : List (Dcontent × Int)) : ev (c1 n) (Z4 x0 x3) (E []) (retK rs ps r) = j1 n x0 x3 := (w1 n x0 x3 (c2 n) (cb6 n)).trans (by simp -implicitDefEqProofs only [j1, l6_ok n] <;> kernel_rfl)
noncomputable def H1 (n : Nat) (X : XC) : Q := fun st => ghK [.keep [0, 3]] st fun st => ev X st (E []) (retK rs ps r)
noncomputable abbrev K1 (n : Nat) : Q := H1 n (c1 n)
noncomputable def Kb8 (Kr8 : Q) : Q := fun st => ghK [.keep [0, 3, 19, 20, 21]] st Kr8
noncomputable def d9 (n : Nat) : XC :=
  (.aft (.reg (.op (.bin 35 .add (.t 21) (.c ⟨.int .i64, ((1 : Int) : Int)⟩)) none <| .op (.mv 21 (.t 35)) none <| .nil)) [.keep [0, 3, 19, 20, 21]])
noncomputable abbrev c9 (n : Nat) : XC := d9 n
theorem qb8_0 (Kr8 : Q) (kr8 : (List DRecord) → (List (Dcontent × Int)) → (List DRecord) → Int → Int → Option (List DRecord)) (hK8 : ∀ (x0 : List DRecord) (x3 : List (Dcontent × Int)) (x19 : List DRecord) (x20 : Int) (x21 : Int), Kr8 (Z5 x0 x3 x19 x20 x21) = kr8 x0 x3 x19 x20 x21) (x0 : List DRecord) (x3 : List (Dcontent × Int)) (x19 : List DRecord) (x20 : Int) (x21 : Int) : Kb8 Kr8 (Z5 x0 x3 x19 x20 x21) = kr8 x0 x3 x19 x20 x21 := (by kernel_rfl : _ = Kr8 (Z5 x0 x3 x19 x20 x21)).trans (hK8 x0 x3 x19 x20 x21)
noncomputable def j9 (n : Nat) (kr8 : (List DRecord) → (List (Dcontent × Int)) → (List DRecord) → Int → Int → Option (List DRecord)) (x0 : List DRecord) (x3 : List (Dcontent × Int)) (x19 : List DRecord) (x20 : Int) (x21 : Int) : Option (List DRecord) :=
  kr8 x0 x3 x19 x20 (IntKind.i64.wrap (x21 + (1 : Int)))
theorem w9 (n : Nat) (Kr8 : Q) (x0 : List DRecord) (x3 : List (Dcontent × Int)) (x19 : List DRecord) (x20 : Int) (x21 : Int) (K1 : Q) (Kb8 : Q) : ev (d9 n) (Z5 x0 x3 x19 x20 x21) (E [(0, K1)]) Kb8 =
  (Kb8 (Z5 x0 x3 x19 x20 (IntKind.i64.wrap (x21 + (1 : Int)))) : Option R) := by kernel_rfl
theorem s9 (n : Nat) (Kr8 : Q) (kr8 : (List DRecord) → (List (Dcontent × Int)) → (List DRecord) → Int → Int → Option (List DRecord)) (hK8 : ∀ (x0 : List DRecord) (x3 : List (Dcontent × Int)) (x19 : List DRecord) (x20 : Int) (x21 : Int), Kr8 (Z5 x0 x3 x19 x20 x21) = kr8 x0 x3 x19 x20 x21) (x0 : List DRecord) (x3 : List (Dcontent × Int)) (x19 : List DRecord) (x20 : Int) (x21 : Int) : ev (c9 n) (Z5 x0 x3 x19 x20 x21) (E [(0, (K1 n))]) (Kb8 Kr8) = j9 n kr8 x0 x3 x19 x20 x21 := (w9 n Kr8 x0 x3 x19 x20 x21 (K1 n) (Kb8 Kr8)).trans (by simp -implicitDefEqProofs only [j9, qb8_0 Kr8 kr8 hK8] <;> kernel_rfl)
noncomputable def H9 (n : Nat) (K1 : Q) (Kb8 : Q) (X : XC) : Q := fun st => ghK [.keep [0, 3, 19, 20, 21]] st fun st => ev X st (E [(0, K1)]) Kb8
noncomputable abbrev K9 (n : Nat) (Kr8 : Q) : Q := H9 n (K1 n) (Kb8 Kr8) (c9 n)
noncomputable def db8 (n : Nat) (X9 : XC) : XC :=
  (.aft (.seq (.reg (.op (.bin 22 .lss (.t 21) (.t 20)) none <| .nil)) <|
  (.seq (.cond (.t 22)
  .skip
  (.pre [.keep [0, 3]] (.exit 0))) <|
  (.seq (.aft (.block 1 (.seq (.reg (.op (.mv 23 (.t 21)) none <| .op (.idxA 24 (.t 19) (.t 21) 9 0) none <| .op (.ld 25 24 9 true) none <| .op (.alloc 5 ⟨TRecord, ((((0 : Int), (0 : Int), (0 : Int), ([] : List Int), (0 : Int), ([] : List Int), (0 : Int), ([] : List Int), ()), (0 : Int), ()) : DRecord)⟩) none <| .op (.mv 4 (.t 23)) none <| .op (.st 5 (.t 25) 9) none <| .nil)) <|
  (.seq (.reg (.op (.ld 27 5 9 true) none <| .op (.call (some 28) (cml_of.sp n) [.v (.t 27)]) none <| .op (.take 26 28) none <| .op (.ext 29 26 0) none <| .op (.ext 30 26 1) none <| .op (.alloc 6 ⟨Tcontent, (((0 : Int), (0 : Int), ()) : Dcontent)⟩) none <| .op (.st 6 (.t 29) 2) none <| .op (.mv 7 (.t 30)) none <| .nil)) <|
  (.seq (.reg (.op (.mv 31 (.t 7)) none <| .nil)) <|
  (.cond (.t 31)
  (.pre [.keep [0, 3, 4, 6, 19, 20, 21]] (.reg (.op (.alsM 32 3) none <| .op (.ld 33 6 2 true) none <| .op (.mv 34 (.t 4)) none <| .op (.mset 32 (.t 33) (.t 34) Tcontent (.int .i64)) none <| .nil)))
  .skip))))) [.keep [0, 3, 19, 20, 21]]) X9))) [.keep [0, 3, 19, 20, 21]])
noncomputable abbrev cb8 (n : Nat) : XC := db8 n (c9 n)
theorem q1_0_r (n : Nat) (X : XC) (x0 : List DRecord) (x3 : List (Dcontent × Int)) : H1 n X (Z4 x0 x3) = (ev X (Z4 x0 x3) (E []) (retK rs ps r) : Option R) := by kernel_rfl
theorem q1_0 (n : Nat) (x0 : List DRecord) (x3 : List (Dcontent × Int)) : K1 n (Z4 x0 x3) = j1 n x0 x3 := (q1_0_r n (c1 n) x0 x3).trans (s1 n x0 x3)
noncomputable def l8 (n : Nat) : Nat → (List DRecord) → (List (Dcontent × Int)) → (List DRecord) → Int → Int → Option (List DRecord)
  | 0, _, _, _, _, _ => none
  | k + 1, x0, x3, x19, x20, x21 =>
  bif (decide (x21 < x20)) then (idxK x19 x21 fun e1 => (cml_of.f n ((e1.1.1, e1.1.2.1, e1.1.2.2.1, e1.1.2.2.2.1, e1.1.2.2.2.2.1, e1.1.2.2.2.2.2.1, e1.1.2.2.2.2.2.2.1, e1.1.2.2.2.2.2.2.2.1, e1.1.2.2.2.2.2.2.2.2), e1.2.1, e1.2.2)).bind fun r2 => bif r2.2.1 then (j9 n (l8 n k) x0 (mapSet1 (r2.1 : Dcontent) (x21 : Int) x3) x19 x20 x21)
  else (j9 n (l8 n k) x0 x3 x19 x20 x21))
  else (j1 n x0 x3)
theorem wb8 (n : Nat) (Kr8 : Q) (x0 : List DRecord) (x3 : List (Dcontent × Int)) (x19 : List DRecord) (x20 : Int) (x21 : Int) (K1 : Q) (X9 : XC) : ev (db8 n X9) (keepSt (Z5 x0 x3 x19 x20 x21) [0, 3, 19, 20, 21]) (E [(0, K1)]) Kr8 =
  (bif (decide (x21 < x20)) then (idxK x19 x21 fun e1 => (cml_of.f n ((e1.1.1, e1.1.2.1, e1.1.2.2.1, e1.1.2.2.2.1, e1.1.2.2.2.2.1, e1.1.2.2.2.2.2.1, e1.1.2.2.2.2.2.2.1, e1.1.2.2.2.2.2.2.2.1, e1.1.2.2.2.2.2.2.2.2), e1.2.1, e1.2.2)).bind fun r2 => bif r2.2.1 then (ev X9 (Z5 x0 ((mapSet1 (r2.1 : Dcontent) (x21 : Int) x3) : List (Dcontent × Int)) x19 x20 x21) (E [(0, K1)]) (Kb8 Kr8))
  else (ev X9 (Z5 x0 x3 x19 x20 x21) (E [(0, K1)]) (Kb8 Kr8)))
  else (K1 (Z4 x0 x3)) : Option R) := by kernel_rfl
theorem l8_ok (n : Nat) (k : Nat) : ∀ (x0 : List DRecord) (x3 : List (Dcontent × Int)) (x19 : List DRecord) (x20 : Int) (x21 : Int), loopEv [0, 3, 19, 20, 21] (fun s K => ev (cb8 n) s (E [(0, (K1 n))]) K) k (Z5 x0 x3 x19 x20 x21) = l8 n k x0 x3 x19 x20 x21 := by
  induction k with
  | zero => intros; rfl
  | succ k ih =>
    intro x0 x3 x19 x20 x21
    exact (wb8 n (fun st => loopEv [0, 3, 19, 20, 21] (fun s K => ev (cb8 n) s (E [(0, (K1 n))]) K) k st) x0 x3 x19 x20 x21 (K1 n) (c9 n)).trans (by simp -implicitDefEqProofs only [l8, s9 n (fun st => loopEv [0, 3, 19, 20, 21] (fun s K => ev (cb8 n) s (E [(0, (K1 n))]) K) k st) (l8 n k) ih, q1_0 n] <;> kernel_rfl)
noncomputable def d (n : Nat) (X1 Y8 : XC) : XC :=
  (.seq (.reg (.op (.mv 2 (.c ⟨.nil 0, ()⟩)) none <| .nil)) <|
  (.seq (.reg (.op (.mkmap 18 Tcontent (.int .i64)) none <| .op (.take 3 18) none <| .nil)) <|
  (.seq (.aft (.seq (.reg (.op (.mv 19 (.t 0)) none <| .op (.len 20 (.t 19) false) none <| .op (.mv 21 (.c ⟨.int .i64, ((0 : Int) : Int)⟩)) none <| .nil)) <|
  (.block 0 (.pre [.keep [0, 3, 19, 20, 21]] (.loop n [0, 3, 19, 20, 21] Y8)))) [.keep [0, 3]]) X1)))
noncomputable abbrev c (n : Nat) : XC := d n (c1 n) (cb8 n)
noncomputable def f (n : Nat) (a0 : List DRecord) : Option (List DRecord) :=
  l8 n n a0 ([] : List (Dcontent × Int)) a0 (a0.length : Int) (0 : Int)
theorem w (n : Nat) (a0 : List DRecord) (X1 Y8 : XC) : evFn (d n X1 Y8) rs ps r (a0, ()) =
  (loopEv [0, 3, 19, 20, 21] (fun s K => ev Y8 s (E [(0, (H1 n X1))]) K) n (Z5 a0 (([] : List (Dcontent × Int)) : List (Dcontent × Int)) a0 (a0.length : Int) (0 : Int)) : Option R) := by kernel_rfl
theorem ok (n : Nat) (a0 : List DRecord) : evFn (c n) rs ps r (a0, ()) = f n a0 := (w n a0 (c1 n) (cb8 n)).trans (by simp -implicitDefEqProofs only [f, l8_ok n] <;> kernel_rfl)
noncomputable def sp (n : Nat) : FSpec := { f := 13, ps := ps, r := r, run := fun x => f n x.1 }
theorem calls (n : Nat) : (c n).calls = [cml_of.sp n, cml_of.sp n, cml_pair.sp n, slices_Clone.sp n, slices_DeleteFunc_31.sp n, slices_Concat.sp n, cml_pair.sp n] := by kernel_rfl
theorem fits (n : Nat) : fnB tab hd Try.f13 (c n) rs (sp n).ps (sp n).r = true := by kernel_rfl
theorem sound (n : Nat) : Sound Try.prog (sp n) := by
  refine fnB_sound tabOk eqFacts mixed (fn := Try.f13) (c := c n) (rs := rs) (by kernel_rfl) ?_ (fits n) ?_
  · rw [calls]
    intro s hs
    simp only [List.mem_cons, List.not_mem_nil, or_false] at hs
    rcases hs with rfl | rfl | rfl | rfl | rfl | rfl | rfl
    · exact cml_of.meets n
    · exact cml_of.meets n
    · exact cml_pair.meets n
    · exact slices_Clone.meets n
    · exact slices_DeleteFunc_31.meets n
    · exact slices_Concat.meets n
    · exact cml_pair.meets n
  · rintro ⟨a0, ⟨⟩⟩ y h
    exact (ok n a0).trans h
theorem meets (n : Nat) : Meets Try.prog (sp n) := (sound n).meets
end cml_Optimise
/-! slices.Equal[[]backwater/api.Record,backwater/api.Record] -/
namespace slices_Equal
abbrev ps : List (Ty × Bool) := [(.slB .U false TRecord, false), (.slB .U false TRecord, false)]
abbrev r : Ty := .bool
abbrev rs : List RV := [.t 4]
abbrev R : Type := (rtOf ps r).den
abbrev Q : Type := St → Option R
abbrev E (l : List (Nat × Q)) : Ks R := ⟨retK rs ps r, l⟩
abbrev Z0 (x0 : Ty.den (.slB .U false TRecord)) (x1 : Ty.den (.slB .U false TRecord)) (x12 : Ty.den (.int .i64)) (x13 : Ty.den (.int .i64)) : St := [(0, some ⟨.slB .U false TRecord, x0⟩), (1, some ⟨.slB .U false TRecord, x1⟩), (12, some ⟨.int .i64, x12⟩), (13, some ⟨.int .i64, x13⟩)]
noncomputable def d1 (n : Nat) : XC :=
  (.seq (.reg (.op (.mv 4 (.c ⟨.bool, (true : Bool)⟩)) none <| .nil)) <|
  .ret)
noncomputable abbrev c1 (n : Nat) : XC := d1 n
noncomputable def j1 (n : Nat)  : Option Bool :=
  some true
theorem s1 (n : Nat)  : ev (c1 n) [] (E []) (retK rs ps r) = j1 n  := by kernel_rfl
noncomputable def H1 (n : Nat) (X : XC) : Q := fun st => ghK [.keep []] st fun st => ev X st (E []) (retK rs ps r)
noncomputable abbrev K1 (n : Nat) : Q := H1 n (c1 n)
noncomputable def Kb2 (Kr2 : Q) : Q := fun st => ghK [.keep [0, 1, 12, 13]] st Kr2
noncomputable def d3 (n : Nat) : XC :=
  (.aft (.reg (.op (.bin 25 .add (.t 13) (.c ⟨.int .i64, ((1 : Int) : Int)⟩)) none <| .op (.mv 13 (.t 25)) none <| .nil)) [.keep [0, 1, 12, 13]])
noncomputable abbrev c3 (n : Nat) : XC := d3 n
theorem qb2_0 (Kr2 : Q) (kr2 : (List DRecord) → (List DRecord) → Int → Int → Option Bool) (hK2 : ∀ (x0 : List DRecord) (x1 : List DRecord) (x12 : Int) (x13 : Int), Kr2 (Z0 x0 x1 x12 x13) = kr2 x0 x1 x12 x13) (x0 : List DRecord) (x1 : List DRecord) (x12 : Int) (x13 : Int) : Kb2 Kr2 (Z0 x0 x1 x12 x13) = kr2 x0 x1 x12 x13 := (by kernel_rfl : _ = Kr2 (Z0 x0 x1 x12 x13)).trans (hK2 x0 x1 x12 x13)
noncomputable def j3 (n : Nat) (kr2 : (List DRecord) → (List DRecord) → Int → Int → Option Bool) (x0 : List DRecord) (x1 : List DRecord) (x12 : Int) (x13 : Int) : Option Bool :=
  kr2 x0 x1 x12 (IntKind.i64.wrap (x13 + (1 : Int)))
theorem w3 (n : Nat) (Kr2 : Q) (x0 : List DRecord) (x1 : List DRecord) (x12 : Int) (x13 : Int) (K1 : Q) (Kb2 : Q) : ev (d3 n) (Z0 x0 x1 x12 x13) (E [(0, K1)]) Kb2 =
  (Kb2 (Z0 x0 x1 x12 (IntKind.i64.wrap (x13 + (1 : Int)))) : Option R) := by kernel_rfl
theorem s3 (n : Nat) (Kr2 : Q) (kr2 : (List DRecord) → (List DRecord) → Int → Int → Option Bool) (hK2 : ∀ (x0 : List DRecord) (x1 : List DRecord) (x12 : Int) (x13 : Int), Kr2 (Z0 x0 x1 x12 x13) = kr2 x0 x1 x12 x13) (x0 : List DRecord) (x1 : List DRecord) (x12 : Int) (x13 : Int) : ev (c3 n) (Z0 x0 x1 x12 x13) (E [(0, (K1 n))]) (Kb2 Kr2) = j3 n kr2 x0 x1 x12 x13 := (w3 n Kr2 x0 x1 x12 x13 (K1 n) (Kb2 Kr2)).trans (by simp -implicitDefEqProofs only [j3, qb2_0 Kr2 kr2 hK2] <;> kernel_rfl)
noncomputable def H3 (n : Nat) (K1 : Q) (Kb2 : Q) (X : XC) : Q := fun st => ghK [.keep [0, 1, 12, 13]] st fun st => ev X st (E [(0, K1)]) Kb2
noncomputable abbrev K3 (n : Nat) (Kr2 : Q) : Q := H3 n (K1 n) (Kb2 Kr2) (c3 n)
noncomputable def db2 (n : Nat) (X3 : XC) : XC :=
  (.aft (.seq (.reg (.op (.bin 14 .lss (.t 13) (.t 12)) none <| .nil)) <|
  (.seq (.cond (.t 14)
  .skip
  (.pre [.keep []] (.exit 0))) <|
  (.seq (.aft (.block 1 (.seq (.reg (.op (.mv 15 (.t 13)) none <| .op (.mv 5 (.t 15)) none <| .nil)) <|
  (.seq (.regD (.op (.mv 16 (.t 0)) (some ([0, 16], [16])) <| .op (.mv 17 (.t 5)) (some ([5, 17], [17])) <| .op (.idxA 18 (.t 16) (.t 17) 9 0) (some ([16, 17, 18], [18])) <| .op (.ld 19 18 9 true) (some ([18, 19], [19])) <| .op (.mv 20 (.t 1)) (some ([1, 20], [20])) <| .op (.mv 21 (.t 5)) (some ([5, 21], [21])) <| .op (.idxA 22 (.t 20) (.t 21) 9 0) (some ([20, 21, 22], [22])) <| .op (.ld 23 22 9 true) (some ([22, 23], [23])) <| .op (.eqs 24 true (.t 19) (.t 23) TRecord) (some ([19, 23, 24], [24])) <| .nil)) <|
  (.cond (.t 24)
  (.seq (.pre [.keep []] (.reg (.op (.mv 4 (.c ⟨.bool, (false : Bool)⟩)) none <| .nil))) <|
  .ret)
  .skip)))) [.keep [0, 1, 12, 13]]) X3))) [.keep [0, 1, 12, 13]])
noncomputable abbrev cb2 (n : Nat) : XC := db2 n (c3 n)
theorem q1_0_r (n : Nat) (X : XC)  : H1 n X [] = (ev X [] (E []) (retK rs ps r) : Option R) := by kernel_rfl
theorem q1_0 (n : Nat)  : K1 n [] = j1 n  := (q1_0_r n (c1 n) ).trans (s1 n )
noncomputable def l2 (n : Nat) : Nat → (List DRecord) → (List DRecord) → Int → Int → Option Bool
  | 0, _, _, _, _ => none
  | k + 1, x0, x1, x12, x13 =>
  bif (decide (x13 < x12)) then (idxK x0 x13 fun e1 => idxK x1 x13 fun e2 => bif (!((eqI e1.1.1 e2.1.1 && (eqI e1.1.2.1 e2.1.2.1 && (eqI e1.1.2.2.1 e2.1.2.2.1 && (eqS e1.1.2.2.2.1 e2.1.2.2.2.1 && (eqI e1.1.2.2.2.2.1 e2.1.2.2.2.2.1 && (eqS e1.1.2.2.2.2.2.1 e2.1.2.2.2.2.2.1 && (eqI e1.1.2.2.2.2.2.2.1 e2.1.2.2.2.2.2.2.1 && (eqS e1.1.2.2.2.2.2.2.2.1 e2.1.2.2.2.2.2.2.2.1 && true)))))))) && (eqI e1.2.1 e2.2.1 && true))) then (some false)
  else (j3 n (l2 n k) x0 x1 x12 x13))
  else (j1 n )
theorem wb2 (n : Nat) (Kr2 : Q) (x0 : List DRecord) (x1 : List DRecord) (x12 : Int) (x13 : Int) (K1 : Q) (X3 : XC) : ev (db2 n X3) (keepSt (Z0 x0 x1 x12 x13) [0, 1, 12, 13]) (E [(0, K1)]) Kr2 =
  (bif (decide (x13 < x12)) then (idxK x0 x13 fun e1 => idxK x1 x13 fun e2 => bif (!((eqI e1.1.1 e2.1.1 && (eqI e1.1.2.1 e2.1.2.1 && (eqI e1.1.2.2.1 e2.1.2.2.1 && (eqS e1.1.2.2.2.1 e2.1.2.2.2.1 && (eqI e1.1.2.2.2.2.1 e2.1.2.2.2.2.1 && (eqS e1.1.2.2.2.2.2.1 e2.1.2.2.2.2.2.1 && (eqI e1.1.2.2.2.2.2.2.1 e2.1.2.2.2.2.2.2.1 && (eqS e1.1.2.2.2.2.2.2.2.1 e2.1.2.2.2.2.2.2.2.1 && true)))))))) && (eqI e1.2.1 e2.2.1 && true))) then (some false)
  else (ev X3 (Z0 x0 x1 x12 x13) (E [(0, K1)]) (Kb2 Kr2)))
  else (K1 []) : Option R) := by kernel_rfl
theorem l2_ok (n : Nat) (k : Nat) : ∀ (x0 : List DRecord) (x1 : List DRecord) (x12 : Int) (x13 : Int), loopEv [0, 1, 12, 13] (fun s K => ev (cb2 n) s (E [(0, (K1 n))]) K) k (Z0 x0 x1 x12 x13) = l2 n k x0 x1 x12 x13 := by
  induction k with
  | zero => intros; rfl
  | succ k ih =>
    intro x0 x1 x12 x13
    exact (wb2 n (fun st => loopEv [0, 1, 12, 13] (fun s K => ev (cb2 n) s (E [(0, (K1 n))]) K) k st) x0 x1 x12 x13 (K1 n) (c3 n)).trans (by simp -implicitDefEqProofs only [l2, s3 n (fun st => loopEv [0, 1, 12, 13] (fun s K => ev (cb2 n) s (E [(0, (K1 n))]) K) k st) (l2 n k) ih, q1_0 n] <;> kernel_rfl)
noncomputable def d (n : Nat) (X1 Y2 : XC) : XC :=
  (.seq (.reg (.op (.mv 4 (.c ⟨.bool, (false : Bool)⟩)) none <| .nil)) <|
  (.seq (.seq (.reg (.op (.mv 6 (.t 0)) none <| .op (.len 7 (.t 6) false) none <| .op (.mv 8 (.t 1)) none <| .op (.len 9 (.t 8) false) none <| .op (.bin 10 .neq (.t 7) (.t 9)) none <| .nil)) <|
  (.cond (.t 10)
  (.seq (.reg (.op (.mv 4 (.c ⟨.bool, (false : Bool)⟩)) none <| .nil)) <|
  .ret)
  .skip)) <|
  (.seq (.aft (.seq (.reg (.op (.mv 11 (.t 0)) none <| .op (.len 12 (.t 11) false) none <| .op (.mv 13 (.c ⟨.int .i64, ((0 : Int) : Int)⟩)) none <| .nil)) <|
  (.block 0 (.pre [.keep [0, 1, 12, 13]] (.loop n [0, 1, 12, 13] Y2)))) [.keep []]) X1)))
noncomputable abbrev c (n : Nat) : XC := d n (c1 n) (cb2 n)
noncomputable def f (n : Nat) (a0 : List DRecord) (a1 : List DRecord) : Option Bool :=
  bif (!decide ((a0.length : Int) = (a1.length : Int))) then (some false)
  else (l2 n n a0 a1 (a0.length : Int) (0 : Int))
theorem w (n : Nat) (a0 : List DRecord) (a1 : List DRecord) (X1 Y2 : XC) : evFn (d n X1 Y2) rs ps r (a0, a1, ()) =
  (bif (!decide ((a0.length : Int) = (a1.length : Int))) then (some false)
  else (loopEv [0, 1, 12, 13] (fun s K => ev Y2 s (E [(0, (H1 n X1))]) K) n (Z0 a0 a1 (a0.length : Int) (0 : Int))) : Option R) := by kernel_rfl
theorem ok (n : Nat) (a0 : List DRecord) (a1 : List DRecord) : evFn (c n) rs ps r (a0, a1, ()) = f n a0 a1 := (w n a0 a1 (c1 n) (cb2 n)).trans (by simp -implicitDefEqProofs only [f, l2_ok n] <;> kernel_rfl)
noncomputable def sp (n : Nat) : FSpec := { f := 28, ps := ps, r := r, run := fun x => f n x.1 x.2.1 }
theorem calls (n : Nat) : (c n).calls = [] := by kernel_rfl
theorem fits (n : Nat) : fnB tab hd Try.f28 (c n) rs (sp n).ps (sp n).r = true := by kernel_rfl
theorem sound (n : Nat) : Sound Try.prog (sp n) := by
  refine fnB_sound tabOk eqFacts mixed (fn := Try.f28) (c := c n) (rs := rs) (by kernel_rfl) ?_ (fits n) ?_
  · rw [calls]
    intro s hs; cases hs
  · rintro ⟨a0, a1, ⟨⟩⟩ y h
    exact (ok n a0 a1).trans h
theorem meets (n : Nat) : Meets Try.prog (sp n) := (sound n).meets
end slices_Equal
/-! backwater/cml.Same -/
namespace cml_Same
abbrev ps : List (Ty × Bool) := [(.slB .U false TRecord, false), (.slB .U false TRecord, false)]
abbrev r : Ty := .bool
abbrev rs : List RV := [.t 4]
abbrev R : Type := (rtOf ps r).den
abbrev Q : Type := St → Option R
abbrev E (l : List (Nat × Q)) : Ks R := ⟨retK rs ps r, l⟩
noncomputable def d (n : Nat) : XC :=
  (.seq (.reg (.op (.mv 4 (.c ⟨.bool, (false : Bool)⟩)) none <| .nil)) <|
  (.seq (.reg (.op (.mv 5 (.t 0)) none <| .op (.mv 6 (.t 1)) none <| .op (.call (some 7) (slices_Equal.sp n) [.v (.t 5), .v (.t 6)]) none <| .op (.mv 4 (.t 7)) none <| .nil)) <|
  .ret))
noncomputable abbrev c (n : Nat) : XC := d n
noncomputable def f (n : Nat) (a0 : List DRecord) (a1 : List DRecord) : Option Bool :=
  (slices_Equal.f n a0 a1).bind fun r1 => some r1
theorem ok (n : Nat) (a0 : List DRecord) (a1 : List DRecord) : evFn (c n) rs ps r (a0, a1, ()) = f n a0 a1 := by kernel_rfl
noncomputable def sp (n : Nat) : FSpec := { f := 12, ps := ps, r := r, run := fun x => f n x.1 x.2.1 }
theorem calls (n : Nat) : (c n).calls = [slices_Equal.sp n] := by kernel_rfl
theorem fits (n : Nat) : fnB tab hd Try.f12 (c n) rs (sp n).ps (sp n).r = true := by kernel_rfl
theorem sound (n : Nat) : Sound Try.prog (sp n) := by
  refine fnB_sound tabOk eqFacts mixed (fn := Try.f12) (c := c n) (rs := rs) (by kernel_rfl) ?_ (fits n) ?_
  · rw [calls]
    intro s hs
    simp only [List.mem_cons, List.not_mem_nil, or_false] at hs
    rcases hs with rfl
    · exact slices_Equal.meets n
  · rintro ⟨a0, a1, ⟨⟩⟩ y h
    exact (ok n a0 a1).trans h
theorem meets (n : Nat) : Meets Try.prog (sp n) := (sound n).meets
end cml_Same
/-! backwater/cml.Clean -/
namespace cml_Clean
abbrev ps : List (Ty × Bool) := [(.slB .U false TRecord, false)]
abbrev r : Ty := .bool
abbrev rs : List RV := [.t 2]
abbrev R : Type := (rtOf ps r).den
abbrev Q : Type := St → Option R
abbrev E (l : List (Nat × Q)) : Ks R := ⟨retK rs ps r, l⟩
noncomputable def d (n : Nat) : XC :=
  (.seq (.reg (.op (.mv 2 (.c ⟨.bool, (false : Bool)⟩)) none <| .nil)) <|
  (.seq (.reg (.op (.mv 3 (.t 0)) none <| .op (.call (some 4) (cml_Optimise.sp n) [.v (.t 3)]) none <| .op (.mv 5 (.t 0)) none <| .op (.call (some 6) (cml_Same.sp n) [.v (.t 4), .v (.t 5)]) none <| .op (.mv 2 (.t 6)) none <| .nil)) <|
  .ret))
noncomputable abbrev c (n : Nat) : XC := d n
noncomputable def f (n : Nat) (a0 : List DRecord) : Option Bool :=
  (cml_Optimise.f n a0).bind fun r1 => (cml_Same.f n r1 a0).bind fun r2 => some r2
theorem ok (n : Nat) (a0 : List DRecord) : evFn (c n) rs ps r (a0, ()) = f n a0 := by kernel_rfl
noncomputable def sp (n : Nat) : FSpec := { f := 15, ps := ps, r := r, run := fun x => f n x.1 }
theorem calls (n : Nat) : (c n).calls = [cml_Optimise.sp n, cml_Same.sp n] := by kernel_rfl
theorem fits (n : Nat) : fnB tab hd Try.f15 (c n) rs (sp n).ps (sp n).r = true := by kernel_rfl
theorem sound (n : Nat) : Sound Try.prog (sp n) := by
  refine fnB_sound tabOk eqFacts mixed (fn := Try.f15) (c := c n) (rs := rs) (by kernel_rfl) ?_ (fits n) ?_
  · rw [calls]
    intro s hs
    simp only [List.mem_cons, List.not_mem_nil, or_false] at hs
    rcases hs with rfl | rfl
    · exact cml_Optimise.meets n
    · exact cml_Same.meets n
  · rintro ⟨a0, ⟨⟩⟩ y h
    exact (ok n a0).trans h
theorem meets (n : Nat) : Meets Try.prog (sp n) := (sound n).meets
end cml_Clean
/-! backwater/backwaterlaw08.live -/
namespace law08_live
abbrev ps : List (Ty × Bool) := []
abbrev r : Ty := .bool
abbrev rs : List RV := [.t 0]
abbrev R : Type := (rtOf ps r).den
abbrev Q : Type := St → Option R
abbrev E (l : List (Nat × Q)) : Ks R := ⟨retK rs ps r, l⟩
noncomputable def d (n : Nat) : XC :=
  (.seq (.reg (.op (.mv 0 (.c ⟨.bool, (false : Bool)⟩)) none <| .nil)) <|
  (.seq (.reg (.op (.build 4 ⟨TOp, (((0 : Int), (0 : Int), (0 : Int), ([] : List Int), (0 : Int), ([] : List Int), (0 : Int), ([] : List Int), ()) : DOp)⟩ [(0, (.c ⟨.int .u8, ((1 : Int) : Int)⟩), false), (1, (.c ⟨.int .u32, ((5 : Int) : Int)⟩), false), (2, (.c ⟨.int .u32, ((1 : Int) : Int)⟩), false), (3, (.c ⟨.str, (([97] : List Int) : List Int)⟩), false)]) none <| .op (.build 5 ⟨TRecord, ((((0 : Int), (0 : Int), (0 : Int), ([] : List Int), (0 : Int), ([] : List Int), (0 : Int), ([] : List Int), ()), (0 : Int), ()) : DRecord)⟩ [(0, (.t 4), false)]) none <| .op (.build 6 ⟨TOp, (((0 : Int), (0 : Int), (0 : Int), ([] : List Int), (0 : Int), ([] : List Int), (0 : Int), ([] : List Int), ()) : DOp)⟩ [(0, (.c ⟨.int .u8, ((8 : Int) : Int)⟩), false), (1, (.c ⟨.int .u32, ((5 : Int) : Int)⟩), false), (7, (.c ⟨.str, (([120] : List Int) : List Int)⟩), false)]) none <| .op (.build 7 ⟨TRecord, ((((0 : Int), (0 : Int), (0 : Int), ([] : List Int), (0 : Int), ([] : List Int), (0 : Int), ([] : List Int), ()), (0 : Int), ()) : DRecord)⟩ [(0, (.t 6), false)]) none <| .op (.build 8 ⟨TOp, (((0 : Int), (0 : Int), (0 : Int), ([] : List Int), (0 : Int), ([] : List Int), (0 : Int), ([] : List Int), ()) : DOp)⟩ [(0, (.c ⟨.int .u8, ((8 : Int) : Int)⟩), false), (1, (.c ⟨.int .u32, ((5 : Int) : Int)⟩), false), (7, (.c ⟨.str, (([121] : List Int) : List Int)⟩), false)]) none <| .op (.build 9 ⟨TRecord, ((((0 : Int), (0 : Int), (0 : Int), ([] : List Int), (0 : Int), ([] : List Int), (0 : Int), ([] : List Int), ()), (0 : Int), ()) : DRecord)⟩ [(0, (.t 8), false)]) none <| .op (.bsl 10 TRecord [(.t 5), (.t 7), (.t 9)]) none <| .op (.take 1 10) none <| .nil)) <|
  (.seq (.reg (.op (.bor 11 1) none <| .op (.call (some 12) (cml_Optimise.sp n) [.v (.t 11)]) none <| .op (.take 2 12) none <| .nil)) <|
  (.seq (.reg (.op (.bsl 13 TRecord []) none <| .op (.bor 14 1) none <| .op (.app 15 13 (.t 14) 88 9) none <| .op (.build 16 ⟨TOp, (((0 : Int), (0 : Int), (0 : Int), ([] : List Int), (0 : Int), ([] : List Int), (0 : Int), ([] : List Int), ()) : DOp)⟩ [(0, (.c ⟨.int .u8, ((5 : Int) : Int)⟩), false), (2, (.c ⟨.int .u32, ((1 : Int) : Int)⟩), false), (3, (.c ⟨.str, (([97] : List Int) : List Int)⟩), false)]) none <| .op (.build 17 ⟨TRecord, ((((0 : Int), (0 : Int), (0 : Int), ([] : List Int), (0 : Int), ([] : List Int), (0 : Int), ([] : List Int), ()), (0 : Int), ()) : DRecord)⟩ [(0, (.t 16), false)]) none <| .op (.bsl 18 TRecord [(.t 17)]) none <| .op (.app 19 15 (.t 18) 88 9) none <| .op (.call (some 20) (cml_Optimise.sp n) [.v (.t 19)]) none <| .op (.take 3 20) none <| .nil)) <|
  (.seq (.pre [.keep [1, 2, 3]] (.reg (.op (.bor 21 2) none <| .op (.len 22 (.t 21) false) none <| .op (.bin 23 .eql (.t 22) (.c ⟨.int .i64, ((2 : Int) : Int)⟩)) none <| .op (.mv 24 (.t 23)) none <| .grp 24 true (.op (.bor 25 2) (some ([2, 24, 25], [25])) <| .op (.idxA 26 (.t 25) (.c ⟨.int .i64, ((1 : Int) : Int)⟩) 9 0) (some ([2, 24, 25, 26], [26])) <| .op (.fa 27 26 0 0) (some ([2, 24, 26, 27], [27])) <| .op (.fa 28 27 7 7) (some ([2, 24, 27, 28], [28])) <| .op (.ld 29 28 1 false) (some ([2, 24, 28, 29], [29])) <| .op (.bin 30 .eql (.t 29) (.c ⟨.str, (([121] : List Int) : List Int)⟩)) (some ([24, 29, 30], [30])) <| .nil) 30 31 [25, 26, 27, 28, 29, 30] <| .op (.mv 32 (.t 31)) none <| .grp 32 true (.op (.bor 33 3) (some ([3, 32, 33], [33])) <| .op (.len 34 (.t 33) false) (some ([3, 32, 33, 34], [34])) <| .op (.bin 35 .eql (.t 34) (.c ⟨.int .i64, ((0 : Int) : Int)⟩)) (some ([32, 34, 35], [35])) <| .nil) 35 36 [33, 34, 35] <| .op (.mv 37 (.t 36)) none <| .grp 37 true (.op (.bor 38 2) (some ([2, 37, 38], [38])) <| .op (.call (some 39) (cml_Clean.sp n) [.v (.t 38)]) (some ([2, 37, 38, 39], [39])) <| .nil) 39 40 [38, 39] <| .op (.mv 41 (.t 40)) none <| .grp 41 true (.op (.bor 42 1) (some ([1, 41, 42], [42])) <| .op (.idxA 43 (.t 42) (.c ⟨.int .i64, ((0 : Int) : Int)⟩) 9 0) (some ([1, 41, 42, 43], [43])) <| .op (.ld 44 43 9 true) (some ([1, 41, 43, 44], [44])) <| .op (.call (some 45) (cml_Touches.sp n) [.v (.t 44), .v (.c ⟨.int .u32, ((1 : Int) : Int)⟩)]) (some ([41, 44, 45], [45])) <| .nil) 45 46 [42, 43, 44, 45] <| .op (.mv 0 (.t 46)) none <| .nil))) <|
  .ret)))))
noncomputable abbrev c (n : Nat) : XC := d n
noncomputable def f (n : Nat)  : Option Bool :=
  (cml_Optimise.f n ([(((1 : Int), (5 : Int), (1 : Int), ([97] : List Int), (0 : Int), ([] : List Int), (0 : Int), ([] : List Int), ()), (0 : Int), ()), (((8 : Int), (5 : Int), (0 : Int), ([] : List Int), (0 : Int), ([] : List Int), (0 : Int), ([120] : List Int), ()), (0 : Int), ()), (((8 : Int), (5 : Int), (0 : Int), ([] : List Int), (0 : Int), ([] : List Int), (0 : Int), ([121] : List Int), ()), (0 : Int), ())] : List DRecord)).bind fun r1 => appK ([] : List DRecord).length ([(((1 : Int), (5 : Int), (1 : Int), ([97] : List Int), (0 : Int), ([] : List Int), (0 : Int), ([] : List Int), ()), (0 : Int), ()), (((8 : Int), (5 : Int), (0 : Int), ([] : List Int), (0 : Int), ([] : List Int), (0 : Int), ([120] : List Int), ()), (0 : Int), ()), (((8 : Int), (5 : Int), (0 : Int), ([] : List Int), (0 : Int), ([] : List Int), (0 : Int), ([121] : List Int), ()), (0 : Int), ())] : List DRecord).length 88 (appK (([] : List DRecord) ++ ([(((1 : Int), (5 : Int), (1 : Int), ([97] : List Int), (0 : Int), ([] : List Int), (0 : Int), ([] : List Int), ()), (0 : Int), ()), (((8 : Int), (5 : Int), (0 : Int), ([] : List Int), (0 : Int), ([] : List Int), (0 : Int), ([120] : List Int), ()), (0 : Int), ()), (((8 : Int), (5 : Int), (0 : Int), ([] : List Int), (0 : Int), ([] : List Int), (0 : Int), ([121] : List Int), ()), (0 : Int), ())] : List DRecord)).length ([(((5 : Int), (0 : Int), (1 : Int), ([97] : List Int), (0 : Int), ([] : List Int), (0 : Int), ([] : List Int), ()), (0 : Int), ())] : List DRecord).length 88 ((cml_Optimise.f n ((([] : List DRecord) ++ ([(((1 : Int), (5 : Int), (1 : Int), ([97] : List Int), (0 : Int), ([] : List Int), (0 : Int), ([] : List Int), ()), (0 : Int), ()), (((8 : Int), (5 : Int), (0 : Int), ([] : List Int), (0 : Int), ([] : List Int), (0 : Int), ([120] : List Int), ()), (0 : Int), ()), (((8 : Int), (5 : Int), (0 : Int), ([] : List Int), (0 : Int), ([] : List Int), (0 : Int), ([121] : List Int), ()), (0 : Int), ())] : List DRecord)) ++ ([(((5 : Int), (0 : Int), (1 : Int), ([97] : List Int), (0 : Int), ([] : List Int), (0 : Int), ([] : List Int), ()), (0 : Int), ())] : List DRecord))).bind fun r2 => (bif (decide ((r1.length : Int) = (2 : Int))) then (idxK r1 (1 : Int) fun e4 => some (decide (e4.1.2.2.2.2.2.2.2.1 = ([121] : List Int)))) else some false).bind fun g3 =>
  (bif g3 then (some (decide ((r2.length : Int) = (0 : Int)))) else some false).bind fun g5 =>
  (bif g5 then ((cml_Clean.f n r1).bind fun r7 => some r7) else some false).bind fun g6 =>
  (bif g6 then (idxK ([(((1 : Int), (5 : Int), (1 : Int), ([97] : List Int), (0 : Int), ([] : List Int), (0 : Int), ([] : List Int), ()), (0 : Int), ()), (((8 : Int), (5 : Int), (0 : Int), ([] : List Int), (0 : Int), ([] : List Int), (0 : Int), ([120] : List Int), ()), (0 : Int), ()), (((8 : Int), (5 : Int), (0 : Int), ([] : List Int), (0 : Int), ([] : List Int), (0 : Int), ([121] : List Int), ()), (0 : Int), ())] : List DRecord) (0 : Int) fun e9 => (cml_Touches.f n ((e9.1.1, e9.1.2.1, e9.1.2.2.1, e9.1.2.2.2.1, e9.1.2.2.2.2.1, e9.1.2.2.2.2.2.1, e9.1.2.2.2.2.2.2.1, e9.1.2.2.2.2.2.2.2.1, e9.1.2.2.2.2.2.2.2.2), e9.2.1, e9.2.2) (1 : Int)).bind fun r10 => some r10) else some false).bind fun g8 =>
  some g8))
theorem ok (n : Nat)  : evFn (c n) rs ps r () = f n  := by kernel_rfl
noncomputable def sp (n : Nat) : FSpec := { f := 11, ps := ps, r := r, run := fun x => f n  }
theorem calls (n : Nat) : (c n).calls = [cml_Optimise.sp n, cml_Optimise.sp n, cml_Clean.sp n, cml_Touches.sp n] := by kernel_rfl
theorem fits (n : Nat) : fnB tab hd Try.f11 (c n) rs (sp n).ps (sp n).r = true := by kernel_rfl
theorem sound (n : Nat) : Sound Try.prog (sp n) := by
  refine fnB_sound tabOk eqFacts mixed (fn := Try.f11) (c := c n) (rs := rs) (by kernel_rfl) ?_ (fits n) ?_
  · rw [calls]
    intro s hs
    simp only [List.mem_cons, List.not_mem_nil, or_false] at hs
    rcases hs with rfl | rfl | rfl | rfl
    · exact cml_Optimise.meets n
    · exact cml_Optimise.meets n
    · exact cml_Clean.meets n
    · exact cml_Touches.meets n
  · rintro ⟨⟩ y h
    exact (ok n ).trans h
theorem meets (n : Nat) : Meets Try.prog (sp n) := (sound n).meets
end law08_live
/-! backwater/backwaterref08.needed -/
namespace r08_needed
abbrev ps : List (Ty × Bool) := [(.slB .U false TRecord, false), (.int .i64, false)]
abbrev r : Ty := .bool
abbrev rs : List RV := [.t 4]
abbrev R : Type := (rtOf ps r).den
abbrev Q : Type := St → Option R
abbrev E (l : List (Nat × Q)) : Ks R := ⟨retK rs ps r, l⟩
abbrev Z0 (x0 : Ty.den (.slB .U false TRecord)) (x1 : Ty.den (.int .i64)) (x5 : Ty.den (.int .u8)) (x6 : Ty.den (.int .i64)) : St := [(0, some ⟨.slB .U false TRecord, x0⟩), (1, some ⟨.int .i64, x1⟩), (5, some ⟨.int .u8, x5⟩), (6, some ⟨.int .i64, x6⟩)]
noncomputable def d1 (n : Nat) : XC :=
  (.seq (.reg (.op (.mv 4 (.c ⟨.bool, (true : Bool)⟩)) none <| .nil)) <|
  .ret)
noncomputable abbrev c1 (n : Nat) : XC := d1 n
noncomputable def j1 (n : Nat)  : Option Bool :=
  some true
theorem s1 (n : Nat)  : ev (c1 n) [] (E []) (retK rs ps r) = j1 n  := by kernel_rfl
noncomputable def H1 (n : Nat) (X : XC) : Q := fun st => ghK [.keep []] st fun st => ev X st (E []) (retK rs ps r)
noncomputable abbrev K1 (n : Nat) : Q := H1 n (c1 n)
noncomputable def Kb2 (Kr2 : Q) : Q := fun st => ghK [.keep [0, 1, 5, 6]] st Kr2
noncomputable def d3 (n : Nat) : XC :=
  (.aft (.reg (.op (.mv 25 (.t 6)) none <| .op (.bin 26 .add (.t 25) (.c ⟨.int .i64, ((1 : Int) : Int)⟩)) none <| .op (.mv 6 (.t 26)) none <| .nil)) [.keep [0, 1, 5, 6]])
noncomputable abbrev c3 (n : Nat) : XC := d3 n
theorem qb2_0 (Kr2 : Q) (kr2 : (List DRecord) → Int → Int → Int → Option Bool) (hK2 : ∀ (x0 : List DRecord) (x1 : Int) (x5 : Int) (x6 : Int), Kr2 (Z0 x0 x1 x5 x6) = kr2 x0 x1 x5 x6) (x0 : List DRecord) (x1 : Int) (x5 : Int) (x6 : Int) : Kb2 Kr2 (Z0 x0 x1 x5 x6) = kr2 x0 x1 x5 x6 := (by kernel_rfl : _ = Kr2 (Z0 x0 x1 x5 x6)).trans (hK2 x0 x1 x5 x6)
noncomputable def j3 (n : Nat) (kr2 : (List DRecord) → Int → Int → Int → Option Bool) (x0 : List DRecord) (x1 : Int) (x5 : Int) (x6 : Int) : Option Bool :=
  kr2 x0 x1 x5 (IntKind.i64.wrap (x6 + (1 : Int)))
theorem w3 (n : Nat) (Kr2 : Q) (x0 : List DRecord) (x1 : Int) (x5 : Int) (x6 : Int) (K1 : Q) (Kb2 : Q) : ev (d3 n) (Z0 x0 x1 x5 x6) (E [(0, K1)]) Kb2 =
  (Kb2 (Z0 x0 x1 x5 (IntKind.i64.wrap (x6 + (1 : Int)))) : Option R) := by kernel_rfl
theorem s3 (n : Nat) (Kr2 : Q) (kr2 : (List DRecord) → Int → Int → Int → Option Bool) (hK2 : ∀ (x0 : List DRecord) (x1 : Int) (x5 : Int) (x6 : Int), Kr2 (Z0 x0 x1 x5 x6) = kr2 x0 x1 x5 x6) (x0 : List DRecord) (x1 : Int) (x5 : Int) (x6 : Int) : ev (c3 n) (Z0 x0 x1 x5 x6) (E [(0, (K1 n))]) (Kb2 Kr2) = j3 n kr2 x0 x1 x5 x6 := (w3 n Kr2 x0 x1 x5 x6 (K1 n) (Kb2 Kr2)).trans (by simp -implicitDefEqProofs only [j3, qb2_0 Kr2 kr2 hK2] <;> kernel_rfl)
noncomputable def H3 (n : Nat) (K1 : Q) (Kb2 : Q) (X : XC) : Q := fun st => ghK [.keep [0, 1, 5, 6]] st fun st => ev X st (E [(0, K1)]) Kb2
noncomputable abbrev K3 (n : Nat) (Kr2 : Q) : Q := H3 n (K1 n) (Kb2 Kr2) (c3 n)
noncomputable def db2 (n : Nat) (X3 : XC) : XC :=
  (.aft (.seq (.seq (.reg (.op (.mv 21 (.t 6)) none <| .op (.mv 22 (.t 0)) none <| .op (.len 23 (.t 22) false) none <| .op (.bin 24 .lss (.t 21) (.t 23)) none <| .nil)) <|
  (.cond (.t 24)
  .skip
  (.pre [.keep []] (.exit 0)))) <|
  (.seq (.aft (.block 1 (.seq (.regD (.op (.mv 27 (.t 0)) (some ([0, 27], [27])) <| .op (.mv 28 (.t 6)) (some ([6, 28], [28])) <| .op (.idxA 29 (.t 27) (.t 28) 9 0) (some ([27, 28, 29], [29])) <| .op (.fa 30 29 0 0) (some ([29, 30], [30])) <| .op (.fa 31 30 0 0) (some ([30, 31], [31])) <| .op (.ld 32 31 1 false) (some ([31, 32], [32])) <| .op (.mv 33 (.t 5)) (some ([5, 33], [33])) <| .op (.bin 34 .eql (.t 32) (.t 33)) (some ([32, 33, 34], [34])) <| .op (.mv 35 (.t 34)) (some ([34, 35], [35])) <| .grp 35 true (.op (.mv 36 (.t 0)) (some ([0, 35, 36], [36])) <| .op (.mv 37 (.t 6)) (some ([6, 35, 37], [37])) <| .op (.idxA 38 (.t 36) (.t 37) 9 0) (some ([35, 36, 37, 38], [38])) <| .op (.fa 39 38 0 0) (some ([35, 38, 39], [39])) <| .op (.fa 40 39 1 1) (some ([35, 39, 40], [40])) <| .op (.ld 41 40 1 false) (some ([35, 40, 41], [41])) <| .op (.mv 42 (.t 0)) (some ([0, 35, 42], [42])) <| .op (.mv 43 (.t 1)) (some ([1, 35, 43], [43])) <| .op (.idxA 44 (.t 42) (.t 43) 9 0) (some ([35, 42, 43, 44], [44])) <| .op (.fa 45 44 0 0) (some ([35, 44, 45], [45])) <| .op (.fa 46 45 1 1) (some ([35, 45, 46], [46])) <| .op (.ld 47 46 1 false) (some ([35, 46, 47], [47])) <| .op (.bin 48 .eql (.t 41) (.t 47)) (some ([35, 41, 47, 48], [48])) <| .nil) 48 49 [36, 37, 38, 39, 40, 41, 42, 43, 44, 45, 46, 47, 48] <| .nil)) <|
  (.cond (.t 49)
  (.seq (.pre [.keep []] (.reg (.op (.mv 4 (.c ⟨.bool, (false : Bool)⟩)) none <| .nil))) <|
  .ret)
  .skip))) [.keep [0, 1, 5, 6]]) X3)) [.keep [0, 1, 5, 6]])
noncomputable abbrev cb2 (n : Nat) : XC := db2 n (c3 n)
theorem q1_0_r (n : Nat) (X : XC)  : H1 n X [] = (ev X [] (E []) (retK rs ps r) : Option R) := by kernel_rfl
theorem q1_0 (n : Nat)  : K1 n [] = j1 n  := (q1_0_r n (c1 n) ).trans (s1 n )
noncomputable def l2 (n : Nat) : Nat → (List DRecord) → Int → Int → Int → Option Bool
  | 0, _, _, _, _ => none
  | k + 1, x0, x1, x5, x6 =>
  bif (decide (x6 < (x0.length : Int))) then (idxK x0 x6 fun e1 => (bif (decide (e1.1.1 = x5)) then (idxK x0 x6 fun e3 => idxK x0 x1 fun e4 => some (decide (e3.1.2.1 = e4.1.2.1))) else some false).bind fun g2 =>
  bif g2 then (some false)
  else (j3 n (l2 n k) x0 x1 x5 x6))
  else (j1 n )
theorem wb2 (n : Nat) (Kr2 : Q) (x0 : List DRecord) (x1 : Int) (x5 : Int) (x6 : Int) (K1 : Q) (X3 : XC) : ev (db2 n X3) (keepSt (Z0 x0 x1 x5 x6) [0, 1, 5, 6]) (E [(0, K1)]) Kr2 =
  (bif (decide (x6 < (x0.length : Int))) then (idxK x0 x6 fun e1 => (bif (decide (e1.1.1 = x5)) then (idxK x0 x6 fun e3 => idxK x0 x1 fun e4 => some (decide (e3.1.2.1 = e4.1.2.1))) else some false).bind fun g2 =>
  bif g2 then (some false)
  else (ev X3 (Z0 x0 x1 x5 x6) (E [(0, K1)]) (Kb2 Kr2)))
  else (K1 []) : Option R) := by kernel_rfl
theorem l2_ok (n : Nat) (k : Nat) : ∀ (x0 : List DRecord) (x1 : Int) (x5 : Int) (x6 : Int), loopEv [0, 1, 5, 6] (fun s K => ev (cb2 n) s (E [(0, (K1 n))]) K) k (Z0 x0 x1 x5 x6) = l2 n k x0 x1 x5 x6 := by
  induction k with
  | zero => intros; rfl
  | succ k ih =>
    intro x0 x1 x5 x6
    exact (wb2 n (fun st => loopEv [0, 1, 5, 6] (fun s K => ev (cb2 n) s (E [(0, (K1 n))]) K) k st) x0 x1 x5 x6 (K1 n) (c3 n)).trans (by simp -implicitDefEqProofs only [l2, s3 n (fun st => loopEv [0, 1, 5, 6] (fun s K => ev (cb2 n) s (E [(0, (K1 n))]) K) k st) (l2 n k) ih, q1_0 n] <;> kernel_rfl)
noncomputable def d (n : Nat) (X1 Y2 : XC) : XC :=
  (.seq (.reg (.op (.mv 4 (.c ⟨.bool, (false : Bool)⟩)) none <| .nil)) <|
  (.seq (.reg (.op (.mv 7 (.t 0)) none <| .op (.mv 8 (.t 1)) none <| .op (.idxA 9 (.t 7) (.t 8) 9 0) none <| .op (.fa 10 9 0 0) none <| .op (.fa 11 10 0 0) none <| .op (.ld 12 11 1 false) none <| .op (.mv 5 (.t 12)) none <| .nil)) <|
  (.seq (.seq (.reg (.op (.mv 13 (.t 5)) none <| .op (.bin 14 .neq (.t 13) (.c ⟨.int .u8, ((8 : Int) : Int)⟩)) none <| .op (.mv 15 (.t 14)) none <| .grp 15 true (.op (.mv 16 (.t 5)) (some ([5, 15, 16], [16])) <| .op (.bin 17 .neq (.t 16) (.c ⟨.int .u8, ((9 : Int) : Int)⟩)) (some ([15, 16, 17], [17])) <| .nil) 17 18 [16, 17] <| .nil)) <|
  (.cond (.t 18)
  (.seq (.pre [.keep []] (.reg (.op (.mv 4 (.c ⟨.bool, (true : Bool)⟩)) none <| .nil))) <|
  .ret)
  .skip)) <|
  (.seq (.aft (.seq (.pre [.keep [0, 1, 5]] (.reg (.op (.mv 19 (.t 1)) none <| .op (.bin 20 .add (.t 19) (.c ⟨.int .i64, ((1 : Int) : Int)⟩)) none <| .op (.mv 6 (.t 20)) none <| .nil))) <|
  (.block 0 (.pre [.keep [0, 1, 5, 6]] (.loop n [0, 1, 5, 6] Y2)))) [.keep []]) X1))))
noncomputable abbrev c (n : Nat) : XC := d n (c1 n) (cb2 n)
noncomputable def f (n : Nat) (a0 : List DRecord) (a1 : Int) : Option Bool :=
  idxK a0 a1 fun e1 => (bif (!decide (e1.1.1 = (8 : Int))) then (some (!decide (e1.1.1 = (9 : Int)))) else some false).bind fun g2 =>
  bif g2 then (some true)
  else (l2 n n a0 a1 e1.1.1 (IntKind.i64.wrap (a1 + (1 : Int))))
theorem w (n : Nat) (a0 : List DRecord) (a1 : Int) (X1 Y2 : XC) : evFn (d n X1 Y2) rs ps r (a0, a1, ()) =
  (idxK a0 a1 fun e1 => (bif (!decide (e1.1.1 = (8 : Int))) then (some (!decide (e1.1.1 = (9 : Int)))) else some false).bind fun g2 =>
  bif g2 then (some true)
  else (loopEv [0, 1, 5, 6] (fun s K => ev Y2 s (E [(0, (H1 n X1))]) K) n (Z0 a0 a1 e1.1.1 (IntKind.i64.wrap (a1 + (1 : Int))))) : Option R) := by kernel_rfl
theorem ok (n : Nat) (a0 : List DRecord) (a1 : Int) : evFn (c n) rs ps r (a0, a1, ()) = f n a0 a1 := (w n a0 a1 (c1 n) (cb2 n)).trans (by simp -implicitDefEqProofs only [f, l2_ok n] <;> kernel_rfl)
noncomputable def sp (n : Nat) : FSpec := { f := 35, ps := ps, r := r, run := fun x => f n x.1 x.2.1 }
theorem calls (n : Nat) : (c n).calls = [] := by kernel_rfl
theorem fits (n : Nat) : fnB tab hd Try.f35 (c n) rs (sp n).ps (sp n).r = true := by kernel_rfl
theorem sound (n : Nat) : Sound Try.prog (sp n) := by
  refine fnB_sound tabOk eqFacts mixed (fn := Try.f35) (c := c n) (rs := rs) (by kernel_rfl) ?_ (fits n) ?_
  · rw [calls]
    intro s hs; cases hs
  · rintro ⟨a0, a1, ⟨⟩⟩ y h
    exact (ok n a0 a1).trans h
theorem meets (n : Nat) : Meets Try.prog (sp n) := (sound n).meets
end r08_needed
/-! backwater/backwaterref06.Names -/
namespace r06_Names
abbrev ps : List (Ty × Bool) := [(TOp, false)]
abbrev r : Ty := .slX .N (.int .u32)
abbrev rs : List RV := [.t 2]
abbrev R : Type := (rtOf ps r).den
abbrev Q : Type := St → Option R
abbrev E (l : List (Nat × Q)) : Ks R := ⟨retK rs ps r, l⟩
abbrev Z0 (x3 : Ty.den (.slX .N (.int .u32))) : St := [(3, some ⟨.slX .N (.int .u32), x3⟩)]
abbrev Z1 (x1 : Ty.den (.box TOp)) (x3 : Ty.den (.slX .N (.int .u32))) : St := [(1, some ⟨.box TOp, x1⟩), (3, some ⟨.slX .N (.int .u32), x3⟩)]
noncomputable def d3 (n : Nat) : XC :=
  (.seq (.reg (.op (.take 28 3) none <| .op (.take 2 28) none <| .nil)) <|
  .ret)
noncomputable abbrev c3 (n : Nat) : XC := d3 n
noncomputable def j3 (n : Nat) (x3 : List Int) : Option (List Int) :=
  some x3
theorem s3 (n : Nat) (x3 : List Int) : ev (c3 n) (Z0 x3) (E []) (retK rs ps r) = j3 n x3 := by kernel_rfl
noncomputable def H3 (n : Nat) (X : XC) : Q := fun st => ghK [.keep [3]] st fun st => ev X st (E []) (retK rs ps r)
noncomputable abbrev K3 (n : Nat) : Q := H3 n (c3 n)
noncomputable def d2 (n : Nat) (X3 : XC) : XC :=
  (.seq (.aft (.seq (.reg (.op (.fa 20 1 4 4) none <| .op (.ld 21 20 1 false) none <| .op (.bin 22 .neq (.t 21) (.c ⟨.int .u32, ((0 : Int) : Int)⟩)) none <| .nil)) <|
  (.cond (.t 22)
  (.reg (.op (.take 23 3) none <| .op (.fa 24 1 4 4) none <| .op (.ld 25 24 1 false) none <| .op (.bsl 26 (.int .u32) [(.t 25)]) none <| .op (.app 27 23 (.t 26) 4 1) none <| .op (.take 3 27) none <| .nil))
  .skip)) [.keep [3]]) X3)
noncomputable abbrev c2 (n : Nat) : XC := d2 n (c3 n)
noncomputable def j2 (n : Nat) (x1 : DOp) (x3 : List Int) : Option (List Int) :=
  bif (!decide (x1.2.2.2.2.1 = (0 : Int))) then (appK x3.length ([x1.2.2.2.2.1] : List Int).length 4 (j3 n (x3 ++ ([x1.2.2.2.2.1] : List Int))))
  else (j3 n x3)
theorem w2 (n : Nat) (x1 : DOp) (x3 : List Int) (X3 : XC) : ev (d2 n X3) (Z1 x1 x3) (E []) (retK rs ps r) =
  (bif (!decide (x1.2.2.2.2.1 = (0 : Int))) then (appK x3.length ([x1.2.2.2.2.1] : List Int).length 4 (ev X3 (Z0 ((x3 ++ ([x1.2.2.2.2.1] : List Int)) : List Int)) (E []) (retK rs ps r)))
  else (ev X3 (Z0 x3) (E []) (retK rs ps r)) : Option R) := by kernel_rfl
theorem s2 (n : Nat) (x1 : DOp) (x3 : List Int) : ev (c2 n) (Z1 x1 x3) (E []) (retK rs ps r) = j2 n x1 x3 := (w2 n x1 x3 (c3 n)).trans (by simp -implicitDefEqProofs only [j2, s3 n] <;> kernel_rfl)
noncomputable def H2 (n : Nat) (X : XC) : Q := fun st => ghK [.keep [1, 3]] st fun st => ev X st (E []) (retK rs ps r)
noncomputable abbrev K2 (n : Nat) : Q := H2 n (c2 n)
noncomputable def d1 (n : Nat) (X2 : XC) : XC :=
  (.seq (.aft (.seq (.reg (.op (.fa 12 1 2 2) none <| .op (.ld 13 12 1 false) none <| .op (.bin 14 .neq (.t 13) (.c ⟨.int .u32, ((0 : Int) : Int)⟩)) none <| .nil)) <|
  (.cond (.t 14)
  (.reg (.op (.take 15 3) none <| .op (.fa 16 1 2 2) none <| .op (.ld 17 16 1 false) none <| .op (.bsl 18 (.int .u32) [(.t 17)]) none <| .op (.app 19 15 (.t 18) 4 1) none <| .op (.take 3 19) none <| .nil))
  .skip)) [.keep [1, 3]]) X2)
noncomputable abbrev c1 (n : Nat) : XC := d1 n (c2 n)
noncomputable def j1 (n : Nat) (x1 : DOp) (x3 : List Int) : Option (List Int) :=
  bif (!decide (x1.2.2.1 = (0 : Int))) then (appK x3.length ([x1.2.2.1] : List Int).length 4 (j2 n (x1.1, x1.2.1, x1.2.2.1, x1.2.2.2.1, x1.2.2.2.2.1, x1.2.2.2.2.2.1, x1.2.2.2.2.2.2.1, x1.2.2.2.2.2.2.2.1, x1.2.2.2.2.2.2.2.2) (x3 ++ ([x1.2.2.1] : List Int))))
  else (j2 n (x1.1, x1.2.1, x1.2.2.1, x1.2.2.2.1, x1.2.2.2.2.1, x1.2.2.2.2.2.1, x1.2.2.2.2.2.2.1, x1.2.2.2.2.2.2.2.1, x1.2.2.2.2.2.2.2.2) x3)
theorem w1 (n : Nat) (x1 : DOp) (x3 : List Int) (X2 : XC) : ev (d1 n X2) (Z1 x1 x3) (E []) (retK rs ps r) =
  (bif (!decide (x1.2.2.1 = (0 : Int))) then (appK x3.length ([x1.2.2.1] : List Int).length 4 (ev X2 (Z1 ((x1.1, x1.2.1, x1.2.2.1, x1.2.2.2.1, x1.2.2.2.2.1, x1.2.2.2.2.2.1, x1.2.2.2.2.2.2.1, x1.2.2.2.2.2.2.2.1, x1.2.2.2.2.2.2.2.2) : DOp) ((x3 ++ ([x1.2.2.1] : List Int)) : List Int)) (E []) (retK rs ps r)))
  else (ev X2 (Z1 ((x1.1, x1.2.1, x1.2.2.1, x1.2.2.2.1, x1.2.2.2.2.1, x1.2.2.2.2.2.1, x1.2.2.2.2.2.2.1, x1.2.2.2.2.2.2.2.1, x1.2.2.2.2.2.2.2.2) : DOp) x3) (E []) (retK rs ps r)) : Option R) := by kernel_rfl
theorem s1 (n : Nat) (x1 : DOp) (x3 : List Int) : ev (c1 n) (Z1 x1 x3) (E []) (retK rs ps r) = j1 n x1 x3 := (w1 n x1 x3 (c2 n)).trans (by simp -implicitDefEqProofs only [j1, s2 n] <;> kernel_rfl)
noncomputable def H1 (n : Nat) (X : XC) : Q := fun st => ghK [.coe 3 (.slX .N (.int .u32)), .keep [1, 3]] st fun st => ev X st (E []) (retK rs ps r)
noncomputable abbrev K1 (n : Nat) : Q := H1 n (c1 n)
noncomputable def d (n : Nat) (X1 : XC) : XC :=
  (.seq (.reg (.op (.boxv 1 (.t 0)) none <| .op (.mv 2 (.c ⟨.nil 0, ()⟩)) none <| .nil)) <|
  (.seq (.reg (.op (.mv 3 (.c ⟨.nil 0, ()⟩)) none <| .nil)) <|
  (.seq (.aft (.seq (.reg (.op (.fa 4 1 1 1) none <| .op (.ld 5 4 1 false) none <| .op (.bin 6 .neq (.t 5) (.c ⟨.int .u32, ((0 : Int) : Int)⟩)) none <| .nil)) <|
  (.cond (.t 6)
  (.pre [.coe 3 (.slX .N (.int .u32))] (.reg (.op (.take 7 3) none <| .op (.fa 8 1 1 1) none <| .op (.ld 9 8 1 false) none <| .op (.bsl 10 (.int .u32) [(.t 9)]) none <| .op (.app 11 7 (.t 10) 4 1) none <| .op (.take 3 11) none <| .nil)))
  .skip)) [.coe 3 (.slX .N (.int .u32)), .keep [1, 3]]) X1)))
noncomputable abbrev c (n : Nat) : XC := d n (c1 n)
noncomputable def f (n : Nat) (a0 : DOp) : Option (List Int) :=
  bif (!decide (a0.2.1 = (0 : Int))) then (appK ([] : List Int).length ([a0.2.1] : List Int).length 4 (j1 n (a0.1, a0.2.1, a0.2.2.1, a0.2.2.2.1, a0.2.2.2.2.1, a0.2.2.2.2.2.1, a0.2.2.2.2.2.2.1, a0.2.2.2.2.2.2.2.1, a0.2.2.2.2.2.2.2.2) (([] : List Int) ++ ([a0.2.1] : List Int))))
  else (j1 n (a0.1, a0.2.1, a0.2.2.1, a0.2.2.2.1, a0.2.2.2.2.1, a0.2.2.2.2.2.1, a0.2.2.2.2.2.2.1, a0.2.2.2.2.2.2.2.1, a0.2.2.2.2.2.2.2.2) ([] : List Int))
theorem w (n : Nat) (a0 : DOp) (X1 : XC) : evFn (d n X1) rs ps r (a0, ()) =
  (bif (!decide (a0.2.1 = (0 : Int))) then (appK ([] : List Int).length ([a0.2.1] : List Int).length 4 (ev X1 (Z1 ((a0.1, a0.2.1, a0.2.2.1, a0.2.2.2.1, a0.2.2.2.2.1, a0.2.2.2.2.2.1, a0.2.2.2.2.2.2.1, a0.2.2.2.2.2.2.2.1, a0.2.2.2.2.2.2.2.2) : DOp) ((([] : List Int) ++ ([a0.2.1] : List Int)) : List Int)) (E []) (retK rs ps r)))
  else (ev X1 (Z1 ((a0.1, a0.2.1, a0.2.2.1, a0.2.2.2.1, a0.2.2.2.2.1, a0.2.2.2.2.2.1, a0.2.2.2.2.2.2.1, a0.2.2.2.2.2.2.2.1, a0.2.2.2.2.2.2.2.2) : DOp) (([] : List Int) : List Int)) (E []) (retK rs ps r)) : Option R) := by kernel_rfl
theorem ok (n : Nat) (a0 : DOp) : evFn (c n) rs ps r (a0, ()) = f n a0 := (w n a0 (c1 n)).trans (by simp -implicitDefEqProofs only [f, s1 n] <;> kernel_rfl)
noncomputable def sp (n : Nat) : FSpec := { f := 44, ps := ps, r := r, run := fun x => f n x.1 }
theorem calls (n : Nat) : (c n).calls = [] := by kernel_rfl
theorem fits (n : Nat) : fnB tab hd Try.f44 (c n) rs (sp n).ps (sp n).r = true := by kernel_rfl
theorem sound (n : Nat) : Sound Try.prog (sp n) := by
  refine fnB_sound tabOk eqFacts mixed (fn := Try.f44) (c := c n) (rs := rs) (by kernel_rfl) ?_ (fits n) ?_
  · rw [calls]
    intro s hs; cases hs
  · rintro ⟨a0, ⟨⟩⟩ y h
    exact (ok n a0).trans h
theorem meets (n : Nat) : Meets Try.prog (sp n) := (sound n).meets
end r06_Names
/-! backwater/backwaterref08.Touches -/
namespace r08_Touches
abbrev ps : List (Ty × Bool) := [(TRecord, false), (.int .u32, false)]
abbrev r : Ty := .bool
abbrev rs : List RV := [.t 4]
abbrev R : Type := (rtOf ps r).den
abbrev Q : Type := St → Option R
abbrev E (l : List (Nat × Q)) : Ks R := ⟨retK rs ps r, l⟩
abbrev Z0 (x1 : Ty.den (.int .u32)) (x5 : Ty.den (.slX .N (.int .u32))) (x6 : Ty.den (.int .i64)) : St := [(1, some ⟨.int .u32, x1⟩), (5, some ⟨.slX .N (.int .u32), x5⟩), (6, some ⟨.int .i64, x6⟩)]
noncomputable def d1 (n : Nat) : XC :=
  (.seq (.reg (.op (.mv 4 (.c ⟨.bool, (false : Bool)⟩)) none <| .nil)) <|
  .ret)
noncomputable abbrev c1 (n : Nat) : XC := d1 n
noncomputable def j1 (n : Nat)  : Option Bool :=
  some false
theorem s1 (n : Nat)  : ev (c1 n) [] (E []) (retK rs ps r) = j1 n  := by kernel_rfl
noncomputable def H1 (n : Nat) (X : XC) : Q := fun st => ghK [.keep []] st fun st => ev X st (E []) (retK rs ps r)
noncomputable abbrev K1 (n : Nat) : Q := H1 n (c1 n)
noncomputable def Kb2 (Kr2 : Q) : Q := fun st => ghK [.keep [1, 5, 6]] st Kr2
noncomputable def d3 (n : Nat) : XC :=
  (.aft (.reg (.op (.mv 14 (.t 6)) none <| .op (.bin 15 .add (.t 14) (.c ⟨.int .i64, ((1 : Int) : Int)⟩)) none <| .op (.mv 6 (.t 15)) none <| .nil)) [.keep [1, 5, 6]])
noncomputable abbrev c3 (n : Nat) : XC := d3 n
theorem qb2_0 (Kr2 : Q) (kr2 : Int → (List Int) → Int → Option Bool) (hK2 : ∀ (x1 : Int) (x5 : List Int) (x6 : Int), Kr2 (Z0 x1 x5 x6) = kr2 x1 x5 x6) (x1 : Int) (x5 : List Int) (x6 : Int) : Kb2 Kr2 (Z0 x1 x5 x6) = kr2 x1 x5 x6 := (by kernel_rfl : _ = Kr2 (Z0 x1 x5 x6)).trans (hK2 x1 x5 x6)
noncomputable def j3 (n : Nat) (kr2 : Int → (List Int) → Int → Option Bool) (x1 : Int) (x5 : List Int) (x6 : Int) : Option Bool :=
  kr2 x1 x5 (IntKind.i64.wrap (x6 + (1 : Int)))
theorem w3 (n : Nat) (Kr2 : Q) (x1 : Int) (x5 : List Int) (x6 : Int) (K1 : Q) (Kb2 : Q) : ev (d3 n) (Z0 x1 x5 x6) (E [(0, K1)]) Kb2 =
  (Kb2 (Z0 x1 x5 (IntKind.i64.wrap (x6 + (1 : Int)))) : Option R) := by kernel_rfl
theorem s3 (n : Nat) (Kr2 : Q) (kr2 : Int → (List Int) → Int → Option Bool) (hK2 : ∀ (x1 : Int) (x5 : List Int) (x6 : Int), Kr2 (Z0 x1 x5 x6) = kr2 x1 x5 x6) (x1 : Int) (x5 : List Int) (x6 : Int) : ev (c3 n) (Z0 x1 x5 x6) (E [(0, (K1 n))]) (Kb2 Kr2) = j3 n kr2 x1 x5 x6 := (w3 n Kr2 x1 x5 x6 (K1 n) (Kb2 Kr2)).trans (by simp -implicitDefEqProofs only [j3, qb2_0 Kr2 kr2 hK2] <;> kernel_rfl)
noncomputable def H3 (n : Nat) (K1 : Q) (Kb2 : Q) (X : XC) : Q := fun st => ghK [.keep [1, 5, 6]] st fun st => ev X st (E [(0, K1)]) Kb2
noncomputable abbrev K3 (n : Nat) (Kr2 : Q) : Q := H3 n (K1 n) (Kb2 Kr2) (c3 n)
noncomputable def db2 (n : Nat) (X3 : XC) : XC :=
  (.aft (.seq (.seq (.reg (.op (.mv 10 (.t 6)) none <| .op (.bor 11 5) none <| .op (.len 12 (.t 11) false) none <| .op (.bin 13 .lss (.t 10) (.t 12)) none <| .nil)) <|
  (.cond (.t 13)
  .skip
  (.pre [.keep []] (.exit 0)))) <|
  (.seq (.aft (.block 1 (.seq (.reg (.op (.bor 16 5) none <| .op (.mv 17 (.t 6)) none <| .op (.idxA 18 (.t 16) (.t 17) 1 0) none <| .op (.ld 19 18 1 false) none <| .op (.mv 20 (.t 1)) none <| .op (.bin 21 .eql (.t 19) (.t 20)) none <| .nil)) <|
  (.cond (.t 21)
  (.seq (.pre [.keep []] (.reg (.op (.mv 4 (.c ⟨.bool, (true : Bool)⟩)) none <| .nil))) <|
  .ret)
  .skip))) [.keep [1, 5, 6]]) X3)) [.keep [1, 5, 6]])
noncomputable abbrev cb2 (n : Nat) : XC := db2 n (c3 n)
theorem q1_0_r (n : Nat) (X : XC)  : H1 n X [] = (ev X [] (E []) (retK rs ps r) : Option R) := by kernel_rfl
theorem q1_0 (n : Nat)  : K1 n [] = j1 n  := (q1_0_r n (c1 n) ).trans (s1 n )
noncomputable def l2 (n : Nat) : Nat → Int → (List Int) → Int → Option Bool
  | 0, _, _, _ => none
  | k + 1, x1, x5, x6 =>
  bif (decide (x6 < (x5.length : Int))) then (idxK x5 x6 fun e1 => bif (decide (e1 = x1)) then (some true)
  else (j3 n (l2 n k) x1 x5 x6))
  else (j1 n )
theorem wb2 (n : Nat) (Kr2 : Q) (x1 : Int) (x5 : List Int) (x6 : Int) (K1 : Q) (X3 : XC) : ev (db2 n X3) (keepSt (Z0 x1 x5 x6) [1, 5, 6]) (E [(0, K1)]) Kr2 =
  (bif (decide (x6 < (x5.length : Int))) then (idxK x5 x6 fun e1 => bif (decide (e1 = x1)) then (some true)
  else (ev X3 (Z0 x1 x5 x6) (E [(0, K1)]) (Kb2 Kr2)))
  else (K1 []) : Option R) := by kernel_rfl
theorem l2_ok (n : Nat) (k : Nat) : ∀ (x1 : Int) (x5 : List Int) (x6 : Int), loopEv [1, 5, 6] (fun s K => ev (cb2 n) s (E [(0, (K1 n))]) K) k (Z0 x1 x5 x6) = l2 n k x1 x5 x6 := by
  induction k with
  | zero => intros; rfl
  | succ k ih =>
    intro x1 x5 x6
    exact (wb2 n (fun st => loopEv [1, 5, 6] (fun s K => ev (cb2 n) s (E [(0, (K1 n))]) K) k st) x1 x5 x6 (K1 n) (c3 n)).trans (by simp -implicitDefEqProofs only [l2, s3 n (fun st => loopEv [1, 5, 6] (fun s K => ev (cb2 n) s (E [(0, (K1 n))]) K) k st) (l2 n k) ih, q1_0 n] <;> kernel_rfl)
noncomputable def d (n : Nat) (X1 Y2 : XC) : XC :=
  (.seq (.reg (.op (.boxv 2 (.t 0)) none <| .op (.mv 4 (.c ⟨.bool, (false : Bool)⟩)) none <| .nil)) <|
  (.seq (.reg (.op (.fa 7 2 0 0) none <| .op (.ld 8 7 8 true) none <| .op (.call (some 9) (r06_Names.sp n) [.v (.t 8)]) none <| .op (.take 5 9) none <| .nil)) <|
  (.seq (.aft (.seq (.reg (.op (.mv 6 (.c ⟨.int .i64, ((0 : Int) : Int)⟩)) none <| .nil)) <|
  (.block 0 (.pre [.keep [1, 5, 6]] (.loop n [1, 5, 6] Y2)))) [.keep []]) X1)))
noncomputable abbrev c (n : Nat) : XC := d n (c1 n) (cb2 n)
noncomputable def f (n : Nat) (a0 : DRecord) (a1 : Int) : Option Bool :=
  (r06_Names.f n (a0.1.1, a0.1.2.1, a0.1.2.2.1, a0.1.2.2.2.1, a0.1.2.2.2.2.1, a0.1.2.2.2.2.2.1, a0.1.2.2.2.2.2.2.1, a0.1.2.2.2.2.2.2.2.1, a0.1.2.2.2.2.2.2.2.2)).bind fun r1 => l2 n n a1 r1 (0 : Int)
theorem w (n : Nat) (a0 : DRecord) (a1 : Int) (X1 Y2 : XC) : evFn (d n X1 Y2) rs ps r (a0, a1, ()) =
  ((r06_Names.f n (a0.1.1, a0.1.2.1, a0.1.2.2.1, a0.1.2.2.2.1, a0.1.2.2.2.2.1, a0.1.2.2.2.2.2.1, a0.1.2.2.2.2.2.2.1, a0.1.2.2.2.2.2.2.2.1, a0.1.2.2.2.2.2.2.2.2)).bind fun r1 => loopEv [1, 5, 6] (fun s K => ev Y2 s (E [(0, (H1 n X1))]) K) n (Z0 a1 r1 (0 : Int)) : Option R) := by kernel_rfl
theorem ok (n : Nat) (a0 : DRecord) (a1 : Int) : evFn (c n) rs ps r (a0, a1, ()) = f n a0 a1 := (w n a0 a1 (c1 n) (cb2 n)).trans (by simp -implicitDefEqProofs only [f, l2_ok n] <;> kernel_rfl)
noncomputable def sp (n : Nat) : FSpec := { f := 27, ps := ps, r := r, run := fun x => f n x.1 x.2.1 }
theorem calls (n : Nat) : (c n).calls = [r06_Names.sp n] := by kernel_rfl
theorem fits (n : Nat) : fnB tab hd Try.f27 (c n) rs (sp n).ps (sp n).r = true := by kernel_rfl
theorem sound (n : Nat) : Sound Try.prog (sp n) := by
  refine fnB_sound tabOk eqFacts mixed (fn := Try.f27) (c := c n) (rs := rs) (by kernel_rfl) ?_ (fits n) ?_
  · rw [calls]
    intro s hs
    simp only [List.mem_cons, List.not_mem_nil, or_false] at hs
    rcases hs with rfl
    · exact r06_Names.meets n
  · rintro ⟨a0, a1, ⟨⟩⟩ y h
    exact (ok n a0 a1).trans h
theorem meets (n : Nat) : Meets Try.prog (sp n) := (sound n).meets
end r08_Touches
/-! backwater/backwaterref08.entry -/
namespace r08_entry
abbrev ps : List (Ty × Bool) := [(TRecord, false), (.int .u32, false), (.str, false)]
abbrev r : Ty := .bool
abbrev rs : List RV := [.t 6]
abbrev R : Type := (rtOf ps r).den
abbrev Q : Type := St → Option R
abbrev E (l : List (Nat × Q)) : Ks R := ⟨retK rs ps r, l⟩
noncomputable def d (n : Nat) : XC :=
  (.seq (.reg (.op (.boxv 3 (.t 0)) none <| .op (.mv 6 (.c ⟨.bool, (false : Bool)⟩)) none <| .nil)) <|
  (.seq (.reg (.op (.fa 7 3 0 0) none <| .op (.fa 8 7 2 2) none <| .op (.ld 9 8 1 false) none <| .op (.mv 10 (.t 1)) none <| .op (.bin 11 .eql (.t 9) (.t 10)) none <| .op (.mv 12 (.t 11)) none <| .grp 12 true (.op (.fa 13 3 0 0) (some ([3, 12, 13], [13])) <| .op (.fa 14 13 3 3) (some ([3, 12, 13, 14], [14])) <| .op (.ld 15 14 1 false) (some ([3, 12, 14, 15], [15])) <| .op (.mv 16 (.t 2)) (some ([2, 12, 16], [16])) <| .op (.bin 17 .eql (.t 15) (.t 16)) (some ([12, 15, 16, 17], [17])) <| .nil) 17 18 [13, 14, 15, 16, 17] <| .op (.mv 19 (.t 18)) none <| .grp 19 false (.op (.fa 20 3 0 0) (some ([3, 19, 20], [20])) <| .op (.fa 21 20 4 4) (some ([3, 19, 20, 21], [21])) <| .op (.ld 22 21 1 false) (some ([3, 19, 21, 22], [22])) <| .op (.mv 23 (.t 1)) (some ([1, 19, 23], [23])) <| .op (.bin 24 .eql (.t 22) (.t 23)) (some ([19, 22, 23, 24], [24])) <| .op (.mv 25 (.t 24)) (some ([19, 24, 25], [25])) <| .grp 25 true (.op (.fa 26 3 0 0) (some ([3, 25, 26], [26])) <| .op (.fa 27 26 5 5) (some ([3, 25, 26, 27], [27])) <| .op (.ld 28 27 1 false) (some ([3, 25, 27, 28], [28])) <| .op (.mv 29 (.t 2)) (some ([2, 25, 29], [29])) <| .op (.bin 30 .eql (.t 28) (.t 29)) (some ([25, 28, 29, 30], [30])) <| .nil) 30 31 [26, 27, 28, 29, 30] <| .nil) 31 32 [20, 21, 22, 23, 24, 25, 26, 27, 28, 29, 30, 31] <| .op (.mv 6 (.t 32)) none <| .nil)) <|
  .ret))
noncomputable abbrev c (n : Nat) : XC := d n
noncomputable def f (n : Nat) (a0 : DRecord) (a1 : Int) (a2 : List Int) : Option Bool :=
  (bif (decide (a0.1.2.2.1 = a1)) then (some (decide (a0.1.2.2.2.1 = a2))) else some false).bind fun g1 =>
  (bif g1 then some true else ((bif (decide (a0.1.2.2.2.2.1 = a1)) then (some (decide (a0.1.2.2.2.2.2.1 = a2))) else some false).bind fun g3 =>
  some g3)).bind fun g2 =>
  some g2
theorem ok (n : Nat) (a0 : DRecord) (a1 : Int) (a2 : List Int) : evFn (c n) rs ps r (a0, a1, a2, ()) = f n a0 a1 a2 := by kernel_rfl
noncomputable def sp (n : Nat) : FSpec := { f := 58, ps := ps, r := r, run := fun x => f n x.1 x.2.1 x.2.2.1 }
theorem calls (n : Nat) : (c n).calls = [] := by kernel_rfl
theorem fits (n : Nat) : fnB tab hd Try.f58 (c n) rs (sp n).ps (sp n).r = true := by kernel_rfl
theorem sound (n : Nat) : Sound Try.prog (sp n) := by
  refine fnB_sound tabOk eqFacts mixed (fn := Try.f58) (c := c n) (rs := rs) (by kernel_rfl) ?_ (fits n) ?_
  · rw [calls]
    intro s hs; cases hs
  · rintro ⟨a0, a1, a2, ⟨⟩⟩ y h
    exact (ok n a0 a1 a2).trans h
theorem meets (n : Nat) : Meets Try.prog (sp n) := (sound n).meets
end r08_entry
/-! backwater/backwaterref08.content -/
namespace r08_content
abbrev ps : List (Ty × Bool) := [(TRecord, false), (.int .u32, false)]
abbrev r : Ty := .bool
abbrev rs : List RV := [.t 4]
abbrev R : Type := (rtOf ps r).den
abbrev Q : Type := St → Option R
abbrev E (l : List (Nat × Q)) : Ks R := ⟨retK rs ps r, l⟩
noncomputable def d (n : Nat) : XC :=
  (.seq (.reg (.op (.boxv 2 (.t 0)) none <| .op (.mv 4 (.c ⟨.bool, (false : Bool)⟩)) none <| .nil)) <|
  (.seq (.reg (.op (.fa 5 2 0 0) none <| .op (.fa 6 5 0 0) none <| .op (.ld 7 6 1 false) none <| .op (.bin 8 .eql (.t 7) (.c ⟨.int .u8, ((8 : Int) : Int)⟩)) none <| .op (.mv 9 (.t 8)) none <| .grp 9 false (.op (.fa 10 2 0 0) (some ([2, 9, 10], [10])) <| .op (.fa 11 10 0 0) (some ([2, 9, 10, 11], [11])) <| .op (.ld 12 11 1 false) (some ([2, 9, 11, 12], [12])) <| .op (.bin 13 .eql (.t 12) (.c ⟨.int .u8, ((9 : Int) : Int)⟩)) (some ([9, 12, 13], [13])) <| .nil) 13 14 [10, 11, 12, 13] <| .op (.mv 15 (.t 14)) none <| .grp 15 true (.op (.fa 16 2 0 0) (some ([2, 15, 16], [16])) <| .op (.fa 17 16 1 1) (some ([2, 15, 16, 17], [17])) <| .op (.ld 18 17 1 false) (some ([2, 15, 17, 18], [18])) <| .op (.mv 19 (.t 1)) (some ([1, 15, 19], [19])) <| .op (.bin 20 .eql (.t 18) (.t 19)) (some ([15, 18, 19, 20], [20])) <| .nil) 20 21 [16, 17, 18, 19, 20] <| .op (.mv 4 (.t 21)) none <| .nil)) <|
  .ret))
noncomputable abbrev c (n : Nat) : XC := d n
noncomputable def f (n : Nat) (a0 : DRecord) (a1 : Int) : Option Bool :=
  (bif (decide (a0.1.1 = (8 : Int))) then some true else (some (decide (a0.1.1 = (9 : Int))))).bind fun g1 =>
  (bif g1 then (some (decide (a0.1.2.1 = a1))) else some false).bind fun g2 =>
  some g2
theorem ok (n : Nat) (a0 : DRecord) (a1 : Int) : evFn (c n) rs ps r (a0, a1, ()) = f n a0 a1 := by kernel_rfl
noncomputable def sp (n : Nat) : FSpec := { f := 59, ps := ps, r := r, run := fun x => f n x.1 x.2.1 }
theorem calls (n : Nat) : (c n).calls = [] := by kernel_rfl
theorem fits (n : Nat) : fnB tab hd Try.f59 (c n) rs (sp n).ps (sp n).r = true := by kernel_rfl
theorem sound (n : Nat) : Sound Try.prog (sp n) := by
  refine fnB_sound tabOk eqFacts mixed (fn := Try.f59) (c := c n) (rs := rs) (by kernel_rfl) ?_ (fits n) ?_
  · rw [calls]
    intro s hs; cases hs
  · rintro ⟨a0, a1, ⟨⟩⟩ y h
    exact (ok n a0 a1).trans h
theorem meets (n : Nat) : Meets Try.prog (sp n) := (sound n).meets
end r08_content
/-! backwater/backwaterref08.pair -/
namespace r08_pair
abbrev ps : List (Ty × Bool) := [(.slB .U false TRecord, false), (.int .i64, false), (.int .i64, false)]
abbrev r : Ty := .bool
abbrev rs : List RV := [.t 6]
abbrev R : Type := (rtOf ps r).den
abbrev Q : Type := St → Option R
abbrev E (l : List (Nat × Q)) : Ks R := ⟨retK rs ps r, l⟩
abbrev Z0 (x0 : Ty.den (.slB .U false TRecord)) (x2 : Ty.den (.int .i64)) (x7 : Ty.den (.box TOp)) (x10 : Ty.den (.int .i64)) : St := [(0, some ⟨.slB .U false TRecord, x0⟩), (2, some ⟨.int .i64, x2⟩), (7, some ⟨.box TOp, x7⟩), (10, some ⟨.int .i64, x10⟩)]
noncomputable def d1 (n : Nat) : XC :=
  (.seq (.reg (.op (.mv 6 (.c ⟨.bool, (true : Bool)⟩)) none <| .nil)) <|
  .ret)
noncomputable abbrev c1 (n : Nat) : XC := d1 n
noncomputable def j1 (n : Nat)  : Option Bool :=
  some true
theorem s1 (n : Nat)  : ev (c1 n) [] (E []) (retK rs ps r) = j1 n  := by kernel_rfl
noncomputable def H1 (n : Nat) (X : XC) : Q := fun st => ghK [.keep []] st fun st => ev X st (E []) (retK rs ps r)
noncomputable abbrev K1 (n : Nat) : Q := H1 n (c1 n)
noncomputable def Kb2 (Kr2 : Q) : Q := fun st => ghK [.keep [0, 2, 7, 10]] st Kr2
noncomputable def d3 (n : Nat) : XC :=
  (.aft (.reg (.op (.mv 65 (.t 10)) none <| .op (.bin 66 .add (.t 65) (.c ⟨.int .i64, ((1 : Int) : Int)⟩)) none <| .op (.mv 10 (.t 66)) none <| .nil)) [.keep [0, 2, 7, 10]])
noncomputable abbrev c3 (n : Nat) : XC := d3 n
theorem qb2_0 (Kr2 : Q) (kr2 : (List DRecord) → Int → DOp → Int → Option Bool) (hK2 : ∀ (x0 : List DRecord) (x2 : Int) (x7 : DOp) (x10 : Int), Kr2 (Z0 x0 x2 x7 x10) = kr2 x0 x2 x7 x10) (x0 : List DRecord) (x2 : Int) (x7 : DOp) (x10 : Int) : Kb2 Kr2 (Z0 x0 x2 x7 x10) = kr2 x0 x2 (x7.1, x7.2.1, x7.2.2.1, x7.2.2.2.1, x7.2.2.2.2.1, x7.2.2.2.2.2.1, x7.2.2.2.2.2.2.1, x7.2.2.2.2.2.2.2.1, x7.2.2.2.2.2.2.2.2) x10 := (by kernel_rfl : _ = Kr2 (Z0 x0 x2 ((x7.1, x7.2.1, x7.2.2.1, x7.2.2.2.1, x7.2.2.2.2.1, x7.2.2.2.2.2.1, x7.2.2.2.2.2.2.1, x7.2.2.2.2.2.2.2.1, x7.2.2.2.2.2.2.2.2) : DOp) x10)).trans (hK2 x0 x2 (x7.1, x7.2.1, x7.2.2.1, x7.2.2.2.1, x7.2.2.2.2.1, x7.2.2.2.2.2.1, x7.2.2.2.2.2.2.1, x7.2.2.2.2.2.2.2.1, x7.2.2.2.2.2.2.2.2) x10)
noncomputable def j3 (n : Nat) (kr2 : (List DRecord) → Int → DOp → Int → Option Bool) (x0 : List DRecord) (x2 : Int) (x7 : DOp) (x10 : Int) : Option Bool :=
  kr2 x0 x2 (x7.1, x7.2.1, x7.2.2.1, x7.2.2.2.1, x7.2.2.2.2.1, x7.2.2.2.2.2.1, x7.2.2.2.2.2.2.1, x7.2.2.2.2.2.2.2.1, x7.2.2.2.2.2.2.2.2) (IntKind.i64.wrap (x10 + (1 : Int)))
theorem w3 (n : Nat) (Kr2 : Q) (x0 : List DRecord) (x2 : Int) (x7 : DOp) (x10 : Int) (K1 : Q) (Kb2 : Q) : ev (d3 n) (Z0 x0 x2 x7 x10) (E [(0, K1)]) Kb2 =
  (Kb2 (Z0 x0 x2 x7 (IntKind.i64.wrap (x10 + (1 : Int)))) : Option R) := by kernel_rfl
theorem s3 (n : Nat) (Kr2 : Q) (kr2 : (List DRecord) → Int → DOp → Int → Option Bool) (hK2 : ∀ (x0 : List DRecord) (x2 : Int) (x7 : DOp) (x10 : Int), Kr2 (Z0 x0 x2 x7 x10) = kr2 x0 x2 x7 x10) (x0 : List DRecord) (x2 : Int) (x7 : DOp) (x10 : Int) : ev (c3 n) (Z0 x0 x2 x7 x10) (E [(0, (K1 n))]) (Kb2 Kr2) = j3 n kr2 x0 x2 x7 x10 := (w3 n Kr2 x0 x2 x7 x10 (K1 n) (Kb2 Kr2)).trans (by simp -implicitDefEqProofs only [j3, qb2_0 Kr2 kr2 hK2] <;> kernel_rfl)
noncomputable def H3 (n : Nat) (K1 : Q) (Kb2 : Q) (X : XC) : Q := fun st => ghK [.keep [0, 2, 7, 10]] st fun st => ev X st (E [(0, K1)]) Kb2
noncomputable abbrev K3 (n : Nat) (Kr2 : Q) : Q := H3 n (K1 n) (Kb2 Kr2) (c3 n)
noncomputable def db2 (n : Nat) (X3 : XC) : XC :=
  (.aft (.seq (.seq (.reg (.op (.mv 62 (.t 10)) none <| .op (.mv 63 (.t 2)) none <| .op (.bin 64 .lss (.t 62) (.t 63)) none <| .nil)) <|
  (.cond (.t 64)
  .skip
  (.pre [.keep []] (.exit 0)))) <|
  (.seq (.aft (.block 1 (.seq (.regD (.op (.mv 67 (.t 0)) (some ([0, 67], [67])) <| .op (.mv 68 (.t 10)) (some ([10, 68], [68])) <| .op (.idxA 69 (.t 67) (.t 68) 9 0) (some ([67, 68, 69], [69])) <| .op (.ld 70 69 9 true) (some ([69, 70], [70])) <| .op (.fa 71 7 1 1) (some ([7, 71], [71])) <| .op (.ld 72 71 1 false) (some ([7, 71, 72], [72])) <| .op (.call (some 73) (r08_Touches.sp n) [.v (.t 70), .v (.t 72)]) (some ([70, 72, 73], [73])) <| .op (.mv 74 (.t 73)) (some ([73, 74], [74])) <| .grp 74 false (.op (.mv 75 (.t 0)) (some ([0, 74, 75], [75])) <| .op (.mv 76 (.t 10)) (some ([10, 74, 76], [76])) <| .op (.idxA 77 (.t 75) (.t 76) 9 0) (some ([74, 75, 76, 77], [77])) <| .op (.ld 78 77 9 true) (some ([74, 77, 78], [78])) <| .op (.fa 79 7 2 2) (some ([7, 74, 79], [79])) <| .op (.ld 80 79 1 false) (some ([7, 74, 79, 80], [80])) <| .op (.fa 81 7 3 3) (some ([7, 74, 81], [81])) <| .op (.ld 82 81 1 false) (some ([7, 74, 81, 82], [82])) <| .op (.call (some 83) (r08_entry.sp n) [.v (.t 78), .v (.t 80), .v (.t 82)]) (some ([74, 78, 80, 82, 83], [83])) <| .nil) 83 84 [75, 76, 77, 78, 79, 80, 81, 82, 83] <| .op (.mv 85 (.t 84)) (some ([84, 85], [85])) <| .grp 85 true (.op (.mv 86 (.t 0)) (some ([0, 85, 86], [86])) <| .op (.mv 87 (.t 10)) (some ([10, 85, 87], [87])) <| .op (.idxA 88 (.t 86) (.t 87) 9 0) (some ([85, 86, 87, 88], [88])) <| .op (.ld 89 88 9 true) (some ([85, 88, 89], [89])) <| .op (.fa 90 7 1 1) (some ([7, 85, 90], [90])) <| .op (.ld 91 90 1 false) (some ([7, 85, 90, 91], [91])) <| .op (.call (some 92) (r08_content.sp n) [.v (.t 89), .v (.t 91)]) (some ([85, 89, 91, 92], [92])) <| .op (.un 93 .not (.t 92)) (some ([85, 92, 93], [93])) <| .nil) 93 94 [86, 87, 88, 89, 90, 91, 92, 93] <| .nil)) <|
  (.cond (.t 94)
  (.seq (.pre [.keep []] (.reg (.op (.mv 6 (.c ⟨.bool, (false : Bool)⟩)) none <| .nil))) <|
  .ret)
  .skip))) [.keep [0, 2, 7, 10]]) X3)) [.keep [0, 2, 7, 10]])
noncomputable abbrev cb2 (n : Nat) : XC := db2 n (c3 n)
theorem q1_0_r (n : Nat) (X : XC)  : H1 n X [] = (ev X [] (E []) (retK rs ps r) : Option R) := by kernel_rfl
theorem q1_0 (n : Nat)  : K1 n [] = j1 n  := (q1_0_r n (c1 n) ).trans (s1 n )
noncomputable def l2 (n : Nat) : Nat → (List DRecord) → Int → DOp → Int → Option Bool
  | 0, _, _, _, _ => none
  | k + 1, x0, x2, x7, x10 =>
  bif (decide (x10 < x2)) then (idxK x0 x10 fun e1 => (r08_Touches.f n ((e1.1.1, e1.1.2.1, e1.1.2.2.1, e1.1.2.2.2.1, e1.1.2.2.2.2.1, e1.1.2.2.2.2.2.1, e1.1.2.2.2.2.2.2.1, e1.1.2.2.2.2.2.2.2.1, e1.1.2.2.2.2.2.2.2.2), e1.2.1, e1.2.2) x7.2.1).bind fun r2 => (bif r2 then some true else (idxK x0 x10 fun e4 => (r08_entry.f n ((e4.1.1, e4.1.2.1, e4.1.2.2.1, e4.1.2.2.2.1, e4.1.2.2.2.2.1, e4.1.2.2.2.2.2.1, e4.1.2.2.2.2.2.2.1, e4.1.2.2.2.2.2.2.2.1, e4.1.2.2.2.2.2.2.2.2), e4.2.1, e4.2.2) x7.2.2.1 x7.2.2.2.1).bind fun r5 => some r5)).bind fun g3 =>
  (bif g3 then (idxK x0 x10 fun e7 => (r08_content.f n ((e7.1.1, e7.1.2.1, e7.1.2.2.1, e7.1.2.2.2.1, e7.1.2.2.2.2.1, e7.1.2.2.2.2.2.1, e7.1.2.2.2.2.2.2.1, e7.1.2.2.2.2.2.2.2.1, e7.1.2.2.2.2.2.2.2.2), e7.2.1, e7.2.2) x7.2.1).bind fun r8 => some (!r8)) else some false).bind fun g6 =>
  bif g6 then (some false)
  else (j3 n (l2 n k) x0 x2 (x7.1, x7.2.1, x7.2.2.1, x7.2.2.2.1, x7.2.2.2.2.1, x7.2.2.2.2.2.1, x7.2.2.2.2.2.2.1, x7.2.2.2.2.2.2.2.1, x7.2.2.2.2.2.2.2.2) x10))
  else (j1 n )
theorem wb2 (n : Nat) (Kr2 : Q) (x0 : List DRecord) (x2 : Int) (x7 : DOp) (x10 : Int) (K1 : Q) (X3 : XC) : ev (db2 n X3) (keepSt (Z0 x0 x2 x7 x10) [0, 2, 7, 10]) (E [(0, K1)]) Kr2 =
  (bif (decide (x10 < x2)) then (idxK x0 x10 fun e1 => (r08_Touches.f n ((e1.1.1, e1.1.2.1, e1.1.2.2.1, e1.1.2.2.2.1, e1.1.2.2.2.2.1, e1.1.2.2.2.2.2.1, e1.1.2.2.2.2.2.2.1, e1.1.2.2.2.2.2.2.2.1, e1.1.2.2.2.2.2.2.2.2), e1.2.1, e1.2.2) x7.2.1).bind fun r2 => (bif r2 then some true else (idxK x0 x10 fun e4 => (r08_entry.f n ((e4.1.1, e4.1.2.1, e4.1.2.2.1, e4.1.2.2.2.1, e4.1.2.2.2.2.1, e4.1.2.2.2.2.2.1, e4.1.2.2.2.2.2.2.1, e4.1.2.2.2.2.2.2.2.1, e4.1.2.2.2.2.2.2.2.2), e4.2.1, e4.2.2) x7.2.2.1 x7.2.2.2.1).bind fun r5 => some r5)).bind fun g3 =>
  (bif g3 then (idxK x0 x10 fun e7 => (r08_content.f n ((e7.1.1, e7.1.2.1, e7.1.2.2.1, e7.1.2.2.2.1, e7.1.2.2.2.2.1, e7.1.2.2.2.2.2.1, e7.1.2.2.2.2.2.2.1, e7.1.2.2.2.2.2.2.2.1, e7.1.2.2.2.2.2.2.2.2), e7.2.1, e7.2.2) x7.2.1).bind fun r8 => some (!r8)) else some false).bind fun g6 =>
  bif g6 then (some false)
  else (ev X3 (Z0 x0 x2 ((x7.1, x7.2.1, x7.2.2.1, x7.2.2.2.1, x7.2.2.2.2.1, x7.2.2.2.2.2.1, x7.2.2.2.2.2.2.1, x7.2.2.2.2.2.2.2.1, x7.2.2.2.2.2.2.2.2) : DOp) x10) (E [(0, K1)]) (Kb2 Kr2)))
  else (K1 []) : Option R) := by kernel_rfl
theorem l2_ok (n : Nat) (k : Nat) : ∀ (x0 : List DRecord) (x2 : Int) (x7 : DOp) (x10 : Int), loopEv [0, 2, 7, 10] (fun s K => ev (cb2 n) s (E [(0, (K1 n))]) K) k (Z0 x0 x2 x7 x10) = l2 n k x0 x2 x7 x10 := by
  induction k with
  | zero => intros; rfl
  | succ k ih =>
    intro x0 x2 x7 x10
    exact (wb2 n (fun st => loopEv [0, 2, 7, 10] (fun s K => ev (cb2 n) s (E [(0, (K1 n))]) K) k st) x0 x2 x7 x10 (K1 n) (c3 n)).trans (by simp -implicitDefEqProofs only [l2, s3 n (fun st => loopEv [0, 2, 7, 10] (fun s K => ev (cb2 n) s (E [(0, (K1 n))]) K) k st) (l2 n k) ih, q1_0 n] <;> kernel_rfl)
noncomputable def d (n : Nat) (X1 Y2 : XC) : XC :=
  (.seq (.reg (.op (.mv 6 (.c ⟨.bool, (false : Bool)⟩)) none <| .nil)) <|
  (.seq (.regD (.op (.mv 11 (.t 0)) (some ([0, 11], [11])) <| .op (.mv 12 (.t 1)) (some ([1, 12], [12])) <| .op (.idxA 13 (.t 11) (.t 12) 9 0) (some ([11, 12, 13], [13])) <| .op (.fa 14 13 0 0) (some ([13, 14], [14])) <| .op (.ld 15 14 8 true) (some ([14, 15], [15])) <| .op (.mv 16 (.t 0)) (some ([0, 16], [16])) <| .op (.mv 17 (.t 2)) (some ([2, 17], [17])) <| .op (.idxA 18 (.t 16) (.t 17) 9 0) (some ([16, 17, 18], [18])) <| .op (.fa 19 18 0 0) (some ([18, 19], [19])) <| .op (.ld 20 19 8 true) (some ([19, 20], [20])) <| .op (.alloc 7 ⟨TOp, (((0 : Int), (0 : Int), (0 : Int), ([] : List Int), (0 : Int), ([] : List Int), (0 : Int), ([] : List Int), ()) : DOp)⟩) (some ([7], [7])) <| .op (.alloc 8 ⟨TOp, (((0 : Int), (0 : Int), (0 : Int), ([] : List Int), (0 : Int), ([] : List Int), (0 : Int), ([] : List Int), ()) : DOp)⟩) (some ([8], [8])) <| .op (.st 7 (.t 15) 8) (some ([7, 15], [7])) <| .op (.st 8 (.t 20) 8) (some ([8, 20], [8])) <| .nil)) <|
  (.seq (.pre [.keep [0, 1, 2, 7, 8]] (.reg (.op (.fa 21 8 0 0) none <| .op (.ld 22 21 1 false) none <| .op (.bin 23 .eql (.t 22) (.c ⟨.int .u8, ((5 : Int) : Int)⟩)) none <| .op (.mv 24 (.t 23)) none <| .grp 24 true (.op (.fa 25 7 0 0) (some ([7, 24, 25], [25])) <| .op (.ld 26 25 1 false) (some ([7, 24, 25, 26], [26])) <| .op (.bin 27 .eql (.t 26) (.c ⟨.int .u8, ((1 : Int) : Int)⟩)) (some ([24, 26, 27], [27])) <| .op (.mv 28 (.t 27)) (some ([24, 27, 28], [28])) <| .grp 28 false (.op (.fa 29 7 0 0) (some ([7, 28, 29], [29])) <| .op (.ld 30 29 1 false) (some ([7, 28, 29, 30], [30])) <| .op (.bin 31 .eql (.t 30) (.c ⟨.int .u8, ((3 : Int) : Int)⟩)) (some ([28, 30, 31], [31])) <| .nil) 31 32 [29, 30, 31] <| .nil) 32 33 [25, 26, 27, 28, 29, 30, 31, 32] <| .op (.mv 34 (.t 33)) none <| .grp 34 false (.op (.fa 35 8 0 0) (some ([8, 34, 35], [35])) <| .op (.ld 36 35 1 false) (some ([8, 34, 35, 36], [36])) <| .op (.bin 37 .eql (.t 36) (.c ⟨.int .u8, ((6 : Int) : Int)⟩)) (some ([34, 36, 37], [37])) <| .op (.mv 38 (.t 37)) (some ([34, 37, 38], [38])) <| .grp 38 true (.op (.fa 39 7 0 0) (some ([7, 38, 39], [39])) <| .op (.ld 40 39 1 false) (some ([7, 38, 39, 40], [40])) <| .op (.bin 41 .eql (.t 40) (.c ⟨.int .u8, ((2 : Int) : Int)⟩)) (some ([38, 40, 41], [41])) <| .nil) 41 42 [39, 40, 41] <| .nil) 42 43 [35, 36, 37, 38, 39, 40, 41, 42] <| .op (.mv 9 (.t 43)) none <| .nil))) <|
  (.seq (.seq (.reg (.op (.mv 44 (.t 9)) none <| .op (.un 45 .not (.t 44)) none <| .op (.mv 46 (.t 45)) none <| .grp 46 false (.op (.fa 47 7 2 2) (some ([7, 46, 47], [47])) <| .op (.ld 48 47 1 false) (some ([7, 46, 47, 48], [48])) <| .op (.fa 49 8 2 2) (some ([8, 46, 49], [49])) <| .op (.ld 50 49 1 false) (some ([8, 46, 49, 50], [50])) <| .op (.bin 51 .neq (.t 48) (.t 50)) (some ([46, 48, 50, 51], [51])) <| .nil) 51 52 [47, 48, 49, 50, 51] <| .op (.mv 53 (.t 52)) none <| .grp 53 false (.op (.fa 54 7 3 3) (some ([7, 53, 54], [54])) <| .op (.ld 55 54 1 false) (some ([7, 53, 54, 55], [55])) <| .op (.fa 56 8 3 3) (some ([8, 53, 56], [56])) <| .op (.ld 57 56 1 false) (some ([8, 53, 56, 57], [57])) <| .op (.bin 58 .neq (.t 55) (.t 57)) (some ([53, 55, 57, 58], [58])) <| .nil) 58 59 [54, 55, 56, 57, 58] <| .nil)) <|
  (.cond (.t 59)
  (.seq (.pre [.keep []] (.reg (.op (.mv 6 (.c ⟨.bool, (false : Bool)⟩)) none <| .nil))) <|
  .ret)
  .skip)) <|
  (.seq (.aft (.seq (.pre [.keep [0, 1, 2, 7]] (.reg (.op (.mv 60 (.t 1)) none <| .op (.bin 61 .add (.t 60) (.c ⟨.int .i64, ((1 : Int) : Int)⟩)) none <| .op (.mv 10 (.t 61)) none <| .nil))) <|
  (.block 0 (.pre [.keep [0, 2, 7, 10]] (.loop n [0, 2, 7, 10] Y2)))) [.keep []]) X1)))))
noncomputable abbrev c (n : Nat) : XC := d n (c1 n) (cb2 n)
noncomputable def f (n : Nat) (a0 : List DRecord) (a1 : Int) (a2 : Int) : Option Bool :=
  idxK a0 a1 fun e1 => idxK a0 a2 fun e2 => (bif (decide (e2.1.1 = (5 : Int))) then ((bif (decide (e1.1.1 = (1 : Int))) then some true else (some (decide (e1.1.1 = (3 : Int))))).bind fun g4 =>
  some g4) else some false).bind fun g3 =>
  (bif g3 then some true else ((bif (decide (e2.1.1 = (6 : Int))) then (some (decide (e1.1.1 = (2 : Int)))) else some false).bind fun g6 =>
  some g6)).bind fun g5 =>
  (bif (!g5) then some true else (some (!decide (e1.1.2.2.1 = e2.1.2.2.1)))).bind fun g7 =>
  (bif g7 then some true else (some (!decide (e1.1.2.2.2.1 = e2.1.2.2.2.1)))).bind fun g8 =>
  bif g8 then (some false)
  else (l2 n n a0 a2 (e1.1.1, e1.1.2.1, e1.1.2.2.1, e1.1.2.2.2.1, e1.1.2.2.2.2.1, e1.1.2.2.2.2.2.1, e1.1.2.2.2.2.2.2.1, e1.1.2.2.2.2.2.2.2.1, e1.1.2.2.2.2.2.2.2.2) (IntKind.i64.wrap (a1 + (1 : Int))))
theorem w (n : Nat) (a0 : List DRecord) (a1 : Int) (a2 : Int) (X1 Y2 : XC) : evFn (d n X1 Y2) rs ps r (a0, a1, a2, ()) =
  (idxK a0 a1 fun e1 => idxK a0 a2 fun e2 => (bif (decide (e2.1.1 = (5 : Int))) then ((bif (decide (e1.1.1 = (1 : Int))) then some true else (some (decide (e1.1.1 = (3 : Int))))).bind fun g4 =>
  some g4) else some false).bind fun g3 =>
  (bif g3 then some true else ((bif (decide (e2.1.1 = (6 : Int))) then (some (decide (e1.1.1 = (2 : Int)))) else some false).bind fun g6 =>
  some g6)).bind fun g5 =>
  (bif (!g5) then some true else (some (!decide (e1.1.2.2.1 = e2.1.2.2.1)))).bind fun g7 =>
  (bif g7 then some true else (some (!decide (e1.1.2.2.2.1 = e2.1.2.2.2.1)))).bind fun g8 =>
  bif g8 then (some false)
  else (loopEv [0, 2, 7, 10] (fun s K => ev Y2 s (E [(0, (H1 n X1))]) K) n (Z0 a0 a2 ((e1.1.1, e1.1.2.1, e1.1.2.2.1, e1.1.2.2.2.1, e1.1.2.2.2.2.1, e1.1.2.2.2.2.2.1, e1.1.2.2.2.2.2.2.1, e1.1.2.2.2.2.2.2.2.1, e1.1.2.2.2.2.2.2.2.2) : DOp) (IntKind.i64.wrap (a1 + (1 : Int))))) : Option R) := by kernel_rfl
theorem ok (n : Nat) (a0 : List DRecord) (a1 : Int) (a2 : Int) : evFn (c n) rs ps r (a0, a1, a2, ()) = f n a0 a1 a2 := (w n a0 a1 a2 (c1 n) (cb2 n)).trans (by simp -implicitDefEqProofs only [f, l2_ok n] <;> kernel_rfl)
noncomputable def sp (n : Nat) : FSpec := { f := 49, ps := ps, r := r, run := fun x => f n x.1 x.2.1 x.2.2.1 }
theorem calls (n : Nat) : (c n).calls = [r08_Touches.sp n, r08_entry.sp n, r08_content.sp n] := by kernel_rfl
theorem fits (n : Nat) : fnB tab hd Try.f49 (c n) rs (sp n).ps (sp n).r = true := by kernel_rfl
theorem sound (n : Nat) : Sound Try.prog (sp n) := by
  refine fnB_sound tabOk eqFacts mixed (fn := Try.f49) (c := c n) (rs := rs) (by kernel_rfl) ?_ (fits n) ?_
  · rw [calls]
    intro s hs
    simp only [List.mem_cons, List.not_mem_nil, or_false] at hs
    rcases hs with rfl | rfl | rfl
    · exact r08_Touches.meets n
    · exact r08_entry.meets n
    · exact r08_content.meets n
  · rintro ⟨a0, a1, a2, ⟨⟩⟩ y h
    exact (ok n a0 a1 a2).trans h
theorem meets (n : Nat) : Meets Try.prog (sp n) := (sound n).meets
end r08_pair
/-! backwater/backwaterref08.once -/
namespace r08_once
abbrev ps : List (Ty × Bool) := [(.slB .U false TRecord, false)]
abbrev r : Ty := .tup (.pair (.slX .N TRecord) (.pair .bool .unit))
abbrev rs : List RV := [.t 2, .t 3]
abbrev R : Type := (rtOf ps r).den
abbrev Q : Type := St → Option R
abbrev E (l : List (Nat × Q)) : Ks R := ⟨retK rs ps r, l⟩
abbrev Z0 (x0 : Ty.den (.slB .U false TRecord)) (x4 : Ty.den (.int .i64)) : St := [(0, some ⟨.slB .U false TRecord, x0⟩), (4, some ⟨.int .i64, x4⟩)]
abbrev Z1 (x0 : Ty.den (.slB .U false TRecord)) (x4 : Ty.den (.int .i64)) (x5 : Ty.den (.int .i64)) : St := [(0, some ⟨.slB .U false TRecord, x0⟩), (4, some ⟨.int .i64, x4⟩), (5, some ⟨.int .i64, x5⟩)]
abbrev Z2 (x6 : Ty.den (.slX .N TRecord)) : St := [(6, some ⟨.slX .N TRecord, x6⟩)]
abbrev Z3 (x0 : Ty.den (.slB .U false TRecord)) (x4 : Ty.den (.int .i64)) (x5 : Ty.den (.int .i64)) (x6 : Ty.den (.slX .N TRecord)) (x7 : Ty.den (.int .i64)) : St := [(0, some ⟨.slB .U false TRecord, x0⟩), (4, some ⟨.int .i64, x4⟩), (5, some ⟨.int .i64, x5⟩), (6, some ⟨.slX .N TRecord, x6⟩), (7, some ⟨.int .i64, x7⟩)]
noncomputable def d1 (n : Nat) : XC :=
  (.seq (.reg (.op (.mv 2 (.c ⟨.nil 0, ()⟩)) none <| .op (.mv 3 (.c ⟨.bool, (false : Bool)⟩)) none <| .nil)) <|
  .ret)
noncomputable abbrev c1 (n : Nat) : XC := d1 n
noncomputable def j1 (n : Nat)  : Option ((List DRecord) × Bool × Unit) :=
  some (([] : List DRecord), false, ())
theorem s1 (n : Nat)  : ev (c1 n) [] (E []) (retK rs ps r) = j1 n  := by kernel_rfl
noncomputable def H1 (n : Nat) (X : XC) : Q := fun st => ghK [.keep []] st fun st => ev X st (E []) (retK rs ps r)
noncomputable abbrev K1 (n : Nat) : Q := H1 n (c1 n)
noncomputable def Kb2 (Kr2 : Q) : Q := fun st => ghK [.keep [0, 4]] st Kr2
noncomputable def d3 (n : Nat) : XC :=
  (.aft (.reg (.op (.mv 12 (.t 4)) none <| .op (.bin 13 .add (.t 12) (.c ⟨.int .i64, ((1 : Int) : Int)⟩)) none <| .op (.mv 4 (.t 13)) none <| .nil)) [.keep [0, 4]])
noncomputable abbrev c3 (n : Nat) : XC := d3 n
theorem qb2_0 (Kr2 : Q) (kr2 : (List DRecord) → Int → Option ((List DRecord) × Bool × Unit)) (hK2 : ∀ (x0 : List DRecord) (x4 : Int), Kr2 (Z0 x0 x4) = kr2 x0 x4) (x0 : List DRecord) (x4 : Int) : Kb2 Kr2 (Z0 x0 x4) = kr2 x0 x4 := (by kernel_rfl : _ = Kr2 (Z0 x0 x4)).trans (hK2 x0 x4)
noncomputable def j3 (n : Nat) (kr2 : (List DRecord) → Int → Option ((List DRecord) × Bool × Unit)) (x0 : List DRecord) (x4 : Int) : Option ((List DRecord) × Bool × Unit) :=
  kr2 x0 (IntKind.i64.wrap (x4 + (1 : Int)))
theorem w3 (n : Nat) (Kr2 : Q) (x0 : List DRecord) (x4 : Int) (K1 : Q) (Kb2 : Q) : ev (d3 n) (Z0 x0 x4) (E [(0, K1)]) Kb2 =
  (Kb2 (Z0 x0 (IntKind.i64.wrap (x4 + (1 : Int)))) : Option R) := by kernel_rfl
theorem s3 (n : Nat) (Kr2 : Q) (kr2 : (List DRecord) → Int → Option ((List DRecord) × Bool × Unit)) (hK2 : ∀ (x0 : List DRecord) (x4 : Int), Kr2 (Z0 x0 x4) = kr2 x0 x4) (x0 : List DRecord) (x4 : Int) : ev (c3 n) (Z0 x0 x4) (E [(0, (K1 n))]) (Kb2 Kr2) = j3 n kr2 x0 x4 := (w3 n Kr2 x0 x4 (K1 n) (Kb2 Kr2)).trans (by simp -implicitDefEqProofs only [j3, qb2_0 Kr2 kr2 hK2] <;> kernel_rfl)
noncomputable def H3 (n : Nat) (K1 : Q) (Kb2 : Q) (X : XC) : Q := fun st => ghK [.keep [0, 4]] st fun st => ev X st (E [(0, K1)]) Kb2
noncomputable abbrev K3 (n : Nat) (Kr2 : Q) : Q := H3 n (K1 n) (Kb2 Kr2) (c3 n)
noncomputable def Kb4 (Kr4 : Q) : Q := fun st => ghK [.keep [0, 4, 5]] st Kr4
noncomputable def d5 (n : Nat) : XC :=
  (.aft (.reg (.op (.mv 20 (.t 5)) none <| .op (.bin 21 .add (.t 20) (.c ⟨.int .i64, ((1 : Int) : Int)⟩)) none <| .op (.mv 5 (.t 21)) none <| .nil)) [.keep [0, 4, 5]])
noncomputable abbrev c5 (n : Nat) : XC := d5 n
theorem qb4_0 (Kr4 : Q) (kr4 : (List DRecord) → Int → Int → Option ((List DRecord) × Bool × Unit)) (hK4 : ∀ (x0 : List DRecord) (x4 : Int) (x5 : Int), Kr4 (Z1 x0 x4 x5) = kr4 x0 x4 x5) (x0 : List DRecord) (x4 : Int) (x5 : Int) : Kb4 Kr4 (Z1 x0 x4 x5) = kr4 x0 x4 x5 := (by kernel_rfl : _ = Kr4 (Z1 x0 x4 x5)).trans (hK4 x0 x4 x5)
noncomputable def j5 (n : Nat) (kr2 : (List DRecord) → Int → Option ((List DRecord) × Bool × Unit)) (kr4 : (List DRecord) → Int → Int → Option ((List DRecord) × Bool × Unit)) (x0 : List DRecord) (x4 : Int) (x5 : Int) : Option ((List DRecord) × Bool × Unit) :=
  kr4 x0 x4 (IntKind.i64.wrap (x5 + (1 : Int)))
theorem w5 (n : Nat) (Kr2 : Q) (Kr4 : Q) (x0 : List DRecord) (x4 : Int) (x5 : Int) (K3 : Q) (K1 : Q) (Kb4 : Q) : ev (d5 n) (Z1 x0 x4 x5) (E [(2, K3), (1, K3), (0, K1)]) Kb4 =
  (Kb4 (Z1 x0 x4 (IntKind.i64.wrap (x5 + (1 : Int)))) : Option R) := by kernel_rfl
theorem s5 (n : Nat) (Kr2 : Q) (Kr4 : Q) (kr2 : (List DRecord) → Int → Option ((List DRecord) × Bool × Unit)) (kr4 : (List DRecord) → Int → Int → Option ((List DRecord) × Bool × Unit)) (hK2 : ∀ (x0 : List DRecord) (x4 : Int), Kr2 (Z0 x0 x4) = kr2 x0 x4) (hK4 : ∀ (x0 : List DRecord) (x4 : Int) (x5 : Int), Kr4 (Z1 x0 x4 x5) = kr4 x0 x4 x5) (x0 : List DRecord) (x4 : Int) (x5 : Int) : ev (c5 n) (Z1 x0 x4 x5) (E [(2, (K3 n Kr2)), (1, (K3 n Kr2)), (0, (K1 n))]) (Kb4 Kr4) = j5 n kr2 kr4 x0 x4 x5 := (w5 n Kr2 Kr4 x0 x4 x5 (K3 n Kr2) (K1 n) (Kb4 Kr4)).trans (by simp -implicitDefEqProofs only [j5, qb4_0 Kr4 kr4 hK4] <;> kernel_rfl)
noncomputable def H5 (n : Nat) (K3 : Q) (K1 : Q) (Kb4 : Q) (X : XC) : Q := fun st => ghK [.keep [0, 4, 5]] st fun st => ev X st (E [(2, K3), (1, K3), (0, K1)]) Kb4
noncomputable abbrev K5 (n : Nat) (Kr2 : Q) (Kr4 : Q) : Q := H5 n (K3 n Kr2) (K1 n) (Kb4 Kr4) (c5 n)
noncomputable def d6 (n : Nat) : XC :=
  (.aft (.seq (.reg (.op (.take 72 6) none <| .op (.take 2 72) none <| .op (.mv 3 (.c ⟨.bool, (true : Bool)⟩)) none <| .nil)) <|
  .ret) [.keep [0, 4, 5]])
noncomputable abbrev c6 (n : Nat) : XC := d6 n
noncomputable def j6 (n : Nat) (kr2 : (List DRecord) → Int → Option ((List DRecord) × Bool × Unit)) (kr4 : (List DRecord) → Int → Int → Option ((List DRecord) × Bool × Unit)) (x6 : List DRecord) : Option ((List DRecord) × Bool × Unit) :=
  some (x6, true, ())
theorem s6 (n : Nat) (Kr2 : Q) (Kr4 : Q) (kr2 : (List DRecord) → Int → Option ((List DRecord) × Bool × Unit)) (kr4 : (List DRecord) → Int → Int → Option ((List DRecord) × Bool × Unit)) (hK2 : ∀ (x0 : List DRecord) (x4 : Int), Kr2 (Z0 x0 x4) = kr2 x0 x4) (hK4 : ∀ (x0 : List DRecord) (x4 : Int) (x5 : Int), Kr4 (Z1 x0 x4 x5) = kr4 x0 x4 x5) (x6 : List DRecord) : ev (c6 n) (Z2 x6) (E [(3, (K5 n Kr2 Kr4)), (2, (K3 n Kr2)), (1, (K3 n Kr2)), (0, (K1 n))]) (K5 n Kr2 Kr4) = j6 n kr2 kr4 x6 := by kernel_rfl
noncomputable def H6 (n : Nat) (K5 : Q) (K3 : Q) (K1 : Q) (X : XC) : Q := fun st => ghK [.keep [6]] st fun st => ev X st (E [(3, K5), (2, K3), (1, K3), (0, K1)]) K5
noncomputable abbrev K6 (n : Nat) (Kr2 : Q) (Kr4 : Q) : Q := H6 n (K5 n Kr2 Kr4) (K3 n Kr2) (K1 n) (c6 n)
noncomputable def Kb7 (Kr7 : Q) : Q := fun st => ghK [.keep [0, 4, 5, 6, 7]] st Kr7
noncomputable def d8 (n : Nat) : XC :=
  (.aft (.reg (.op (.mv 31 (.t 7)) none <| .op (.bin 32 .add (.t 31) (.c ⟨.int .i64, ((1 : Int) : Int)⟩)) none <| .op (.mv 7 (.t 32)) none <| .nil)) [.keep [0, 4, 5, 6, 7]])
noncomputable abbrev c8 (n : Nat) : XC := d8 n
theorem qb7_0 (Kr7 : Q) (kr7 : (List DRecord) → Int → Int → (List DRecord) → Int → Option ((List DRecord) × Bool × Unit)) (hK7 : ∀ (x0 : List DRecord) (x4 : Int) (x5 : Int) (x6 : List DRecord) (x7 : Int), Kr7 (Z3 x0 x4 x5 x6 x7) = kr7 x0 x4 x5 x6 x7) (x0 : List DRecord) (x4 : Int) (x5 : Int) (x6 : List DRecord) (x7 : Int) : Kb7 Kr7 (Z3 x0 x4 x5 x6 x7) = kr7 x0 x4 x5 x6 x7 := (by kernel_rfl : _ = Kr7 (Z3 x0 x4 x5 x6 x7)).trans (hK7 x0 x4 x5 x6 x7)
noncomputable def j8 (n : Nat) (kr2 : (List DRecord) → Int → Option ((List DRecord) × Bool × Unit)) (kr4 : (List DRecord) → Int → Int → Option ((List DRecord) × Bool × Unit)) (kr7 : (List DRecord) → Int → Int → (List DRecord) → Int → Option ((List DRecord) × Bool × Unit)) (x0 : List DRecord) (x4 : Int) (x5 : Int) (x6 : List DRecord) (x7 : Int) : Option ((List DRecord) × Bool × Unit) :=
  kr7 x0 x4 x5 x6 (IntKind.i64.wrap (x7 + (1 : Int)))
theorem w8 (n : Nat) (Kr2 : Q) (Kr4 : Q) (Kr7 : Q) (x0 : List DRecord) (x4 : Int) (x5 : Int) (x6 : List DRecord) (x7 : Int) (K6 : Q) (K5 : Q) (K3 : Q) (K1 : Q) (Kb7 : Q) : ev (d8 n) (Z3 x0 x4 x5 x6 x7) (E [(4, K6), (3, K5), (2, K3), (1, K3), (0, K1)]) Kb7 =
  (Kb7 (Z3 x0 x4 x5 x6 (IntKind.i64.wrap (x7 + (1 : Int)))) : Option R) := by kernel_rfl
theorem s8 (n : Nat) (Kr2 : Q) (Kr4 : Q) (Kr7 : Q) (kr2 : (List DRecord) → Int → Option ((List DRecord) × Bool × Unit)) (kr4 : (List DRecord) → Int → Int → Option ((List DRecord) × Bool × Unit)) (kr7 : (List DRecord) → Int → Int → (List DRecord) → Int → Option ((List DRecord) × Bool × Unit)) (hK2 : ∀ (x0 : List DRecord) (x4 : Int), Kr2 (Z0 x0 x4) = kr2 x0 x4) (hK4 : ∀ (x0 : List DRecord) (x4 : Int) (x5 : Int), Kr4 (Z1 x0 x4 x5) = kr4 x0 x4 x5) (hK7 : ∀ (x0 : List DRecord) (x4 : Int) (x5 : Int) (x6 : List DRecord) (x7 : Int), Kr7 (Z3 x0 x4 x5 x6 x7) = kr7 x0 x4 x5 x6 x7) (x0 : List DRecord) (x4 : Int) (x5 : Int) (x6 : List DRecord) (x7 : Int) : ev (c8 n) (Z3 x0 x4 x5 x6 x7) (E [(4, (K6 n Kr2 Kr4)), (3, (K5 n Kr2 Kr4)), (2, (K3 n Kr2)), (1, (K3 n Kr2)), (0, (K1 n))]) (Kb7 Kr7) = j8 n kr2 kr4 kr7 x0 x4 x5 x6 x7 := (w8 n Kr2 Kr4 Kr7 x0 x4 x5 x6 x7 (K6 n Kr2 Kr4) (K5 n Kr2 Kr4) (K3 n Kr2) (K1 n) (Kb7 Kr7)).trans (by simp -implicitDefEqProofs only [j8, qb7_0 Kr7 kr7 hK7] <;> kernel_rfl)
noncomputable def H8 (n : Nat) (K6 : Q) (K5 : Q) (K3 : Q) (K1 : Q) (Kb7 : Q) (X : XC) : Q := fun st => ghK [.keep [0, 4, 5, 6, 7]] st fun st => ev X st (E [(4, K6), (3, K5), (2, K3), (1, K3), (0, K1)]) Kb7
noncomputable abbrev K8 (n : Nat) (Kr2 : Q) (Kr4 : Q) (Kr7 : Q) : Q := H8 n (K6 n Kr2 Kr4) (K5 n Kr2 Kr4) (K3 n Kr2) (K1 n) (Kb7 Kr7) (c8 n)
noncomputable def db7 (n : Nat) (X8 : XC) : XC :=
  (.aft (.seq (.seq (.reg (.op (.mv 27 (.t 7)) none <| .op (.mv 28 (.t 0)) none <| .op (.len 29 (.t 28) false) none <| .op (.bin 30 .lss (.t 27) (.t 29)) none <| .nil)) <|
  (.cond (.t 30)
  .skip
  (.pre [.keep [6]] (.exit 4)))) <|
  (.seq (.aft (.block 5 (.seq (.regD (.op (.mv 33 (.t 7)) (some ([7, 33], [33])) <| .op (.mv 34 (.t 4)) (some ([4, 34], [34])) <| .op (.bin 35 .neq (.t 33) (.t 34)) (some ([33, 34, 35], [35])) <| .op (.mv 36 (.t 35)) (some ([35, 36], [36])) <| .grp 36 true (.op (.mv 37 (.t 7)) (some ([7, 36, 37], [37])) <| .op (.mv 38 (.t 5)) (some ([5, 36, 38], [38])) <| .op (.bin 39 .neq (.t 37) (.t 38)) (some ([36, 37, 38, 39], [39])) <| .nil) 39 40 [37, 38, 39] <| .op (.mv 41 (.t 40)) (some ([40, 41], [41])) <| .grp 41 true (.op (.mv 42 (.t 7)) (some ([7, 41, 42], [42])) <| .op (.mv 43 (.t 4)) (some ([4, 41, 43], [43])) <| .op (.bin 44 .gtr (.t 42) (.t 43)) (some ([41, 42, 43, 44], [44])) <| .op (.mv 45 (.t 44)) (some ([41, 44, 45], [45])) <| .grp 45 true (.op (.mv 46 (.t 7)) (some ([7, 45, 46], [46])) <| .op (.mv 47 (.t 5)) (some ([5, 45, 47], [47])) <| .op (.bin 48 .lss (.t 46) (.t 47)) (some ([45, 46, 47, 48], [48])) <| .nil) 48 49 [46, 47, 48] <| .op (.mv 50 (.t 49)) (some ([41, 49, 50], [50])) <| .grp 50 true (.op (.mv 51 (.t 0)) (some ([0, 50, 51], [51])) <| .op (.mv 52 (.t 7)) (some ([7, 50, 52], [52])) <| .op (.idxA 53 (.t 51) (.t 52) 9 0) (some ([50, 51, 52, 53], [53])) <| .op (.ld 54 53 9 true) (some ([50, 53, 54], [54])) <| .op (.mv 55 (.t 0)) (some ([0, 50, 55], [55])) <| .op (.mv 56 (.t 4)) (some ([4, 50, 56], [56])) <| .op (.idxA 57 (.t 55) (.t 56) 9 0) (some ([50, 55, 56, 57], [57])) <| .op (.fa 58 57 0 0) (some ([50, 57, 58], [58])) <| .op (.fa 59 58 1 1) (some ([50, 58, 59], [59])) <| .op (.ld 60 59 1 false) (some ([50, 59, 60], [60])) <| .op (.call (some 61) (r08_Touches.sp n) [.v (.t 54), .v (.t 60)]) (some ([50, 54, 60, 61], [61])) <| .nil) 61 62 [51, 52, 53, 54, 55, 56, 57, 58, 59, 60, 61] <| .op (.un 63 .not (.t 62)) (some ([41, 62, 63], [63])) <| .nil) 63 64 [42, 43, 44, 45, 46, 47, 48, 49, 50, 51, 52, 53, 54, 55, 56, 57, 58, 59, 60, 61, 62, 63] <| .nil)) <|
  (.cond (.t 64)
  (.pre [.keep [0, 4, 5, 6, 7]] (.reg (.op (.take 65 6) none <| .op (.mv 66 (.t 0)) none <| .op (.mv 67 (.t 7)) none <| .op (.idxA 68 (.t 66) (.t 67) 9 0) none <| .op (.ld 69 68 9 true) none <| .op (.bsl 70 TRecord [(.t 69)]) none <| .op (.app 71 65 (.t 70) 88 9) none <| .op (.take 6 71) none <| .nil)))
  .skip))) [.keep [0, 4, 5, 6, 7]]) X8)) [.keep [0, 4, 5, 6, 7]])
noncomputable abbrev cb7 (n : Nat) : XC := db7 n (c8 n)
theorem q6_0_r (n : Nat) (Kr2 : Q) (Kr4 : Q) (K5 : Q) (K3 : Q) (K1 : Q) (X : XC) (x6 : List DRecord) : H6 n K5 K3 K1 X (Z2 x6) = (ev X (Z2 x6) (E [(3, K5), (2, K3), (1, K3), (0, K1)]) K5 : Option R) := by kernel_rfl
theorem q6_0 (n : Nat) (Kr2 : Q) (Kr4 : Q) (kr2 : (List DRecord) → Int → Option ((List DRecord) × Bool × Unit)) (kr4 : (List DRecord) → Int → Int → Option ((List DRecord) × Bool × Unit)) (hK2 : ∀ (x0 : List DRecord) (x4 : Int), Kr2 (Z0 x0 x4) = kr2 x0 x4) (hK4 : ∀ (x0 : List DRecord) (x4 : Int) (x5 : Int), Kr4 (Z1 x0 x4 x5) = kr4 x0 x4 x5) (x6 : List DRecord) : K6 n Kr2 Kr4 (Z2 x6) = j6 n kr2 kr4 x6 := (q6_0_r n Kr2 Kr4 (K5 n Kr2 Kr4) (K3 n Kr2) (K1 n) (c6 n) x6).trans (s6 n Kr2 Kr4 kr2 kr4 hK2 hK4 x6)
noncomputable def l7 (n : Nat) (kr2 : (List DRecord) → Int → Option ((List DRecord) × Bool × Unit)) (kr4 : (List DRecord) → Int → Int → Option ((List DRecord) × Bool × Unit)) : Nat → (List DRecord) → Int → Int → (List DRecord) → Int → Option ((List DRecord) × Bool × Unit)
  | 0, _, _, _, _, _ => none
  | k + 1, x0, x4, x5, x6, x7 =>
  bif (decide (x7 < (x0.length : Int))) then ((bif (!decide (x7 = x4)) then (some (!decide (x7 = x5))) else some false).bind fun g1 =>
  (bif g1 then ((bif (decide (x4 < x7)) then (some (decide (x7 < x5))) else some false).bind fun g3 =>
  (bif g3 then (idxK x0 x7 fun e5 => idxK x0 x4 fun e6 => (r08_Touches.f n ((e5.1.1, e5.1.2.1, e5.1.2.2.1, e5.1.2.2.2.1, e5.1.2.2.2.2.1, e5.1.2.2.2.2.2.1, e5.1.2.2.2.2.2.2.1, e5.1.2.2.2.2.2.2.2.1, e5.1.2.2.2.2.2.2.2.2), e5.2.1, e5.2.2) e6.1.2.1).bind fun r7 => some r7) else some false).bind fun g4 =>
  some (!g4)) else some false).bind fun g2 =>
  bif g2 then (idxK x0 x7 fun e8 => appK x6.length ([e8] : List DRecord).length 88 (j8 n kr2 kr4 (l7 n kr2 kr4 k) x0 x4 x5 (x6 ++ ([e8] : List DRecord)) x7))
  else (j8 n kr2 kr4 (l7 n kr2 kr4 k) x0 x4 x5 x6 x7))
  else (j6 n kr2 kr4 x6)
theorem wb7 (n : Nat) (Kr2 : Q) (Kr4 : Q) (Kr7 : Q) (x0 : List DRecord) (x4 : Int) (x5 : Int) (x6 : List DRecord) (x7 : Int) (K6 : Q) (K5 : Q) (K3 : Q) (K1 : Q) (X8 : XC) : ev (db7 n X8) (keepSt (Z3 x0 x4 x5 x6 x7) [0, 4, 5, 6, 7]) (E [(4, K6), (3, K5), (2, K3), (1, K3), (0, K1)]) Kr7 =
  (bif (decide (x7 < (x0.length : Int))) then ((bif (!decide (x7 = x4)) then (some (!decide (x7 = x5))) else some false).bind fun g1 =>
  (bif g1 then ((bif (decide (x4 < x7)) then (some (decide (x7 < x5))) else some false).bind fun g3 =>
  (bif g3 then (idxK x0 x7 fun e5 => idxK x0 x4 fun e6 => (r08_Touches.f n ((e5.1.1, e5.1.2.1, e5.1.2.2.1, e5.1.2.2.2.1, e5.1.2.2.2.2.1, e5.1.2.2.2.2.2.1, e5.1.2.2.2.2.2.2.1, e5.1.2.2.2.2.2.2.2.1, e5.1.2.2.2.2.2.2.2.2), e5.2.1, e5.2.2) e6.1.2.1).bind fun r7 => some r7) else some false).bind fun g4 =>
  some (!g4)) else some false).bind fun g2 =>
  bif g2 then (idxK x0 x7 fun e8 => appK x6.length ([e8] : List DRecord).length 88 (ev X8 (Z3 x0 x4 x5 ((x6 ++ ([e8] : List DRecord)) : List DRecord) x7) (E [(4, K6), (3, K5), (2, K3), (1, K3), (0, K1)]) (Kb7 Kr7)))
  else (ev X8 (Z3 x0 x4 x5 x6 x7) (E [(4, K6), (3, K5), (2, K3), (1, K3), (0, K1)]) (Kb7 Kr7)))
  else (K6 (Z2 x6)) : Option R) := by kernel_rfl
theorem l7_ok (n : Nat) (Kr2 : Q) (Kr4 : Q) (kr2 : (List DRecord) → Int → Option ((List DRecord) × Bool × Unit)) (kr4 : (List DRecord) → Int → Int → Option ((List DRecord) × Bool × Unit)) (hK2 : ∀ (x0 : List DRecord) (x4 : Int), Kr2 (Z0 x0 x4) = kr2 x0 x4) (hK4 : ∀ (x0 : List DRecord) (x4 : Int) (x5 : Int), Kr4 (Z1 x0 x4 x5) = kr4 x0 x4 x5) (k : Nat) : ∀ (x0 : List DRecord) (x4 : Int) (x5 : Int) (x6 : List DRecord) (x7 : Int), loopEv [0, 4, 5, 6, 7] (fun s K => ev (cb7 n) s (E [(4, (K6 n Kr2 Kr4)), (3, (K5 n Kr2 Kr4)), (2, (K3 n Kr2)), (1, (K3 n Kr2)), (0, (K1 n))]) K) k (Z3 x0 x4 x5 x6 x7) = l7 n kr2 kr4 k x0 x4 x5 x6 x7 := by
  induction k with
  | zero => intros; rfl
  | succ k ih =>
    intro x0 x4 x5 x6 x7
    exact (wb7 n Kr2 Kr4 (fun st => loopEv [0, 4, 5, 6, 7] (fun s K => ev (cb7 n) s (E [(4, (K6 n Kr2 Kr4)), (3, (K5 n Kr2 Kr4)), (2, (K3 n Kr2)), (1, (K3 n Kr2)), (0, (K1 n))]) K) k st) x0 x4 x5 x6 x7 (K6 n Kr2 Kr4) (K5 n Kr2 Kr4) (K3 n Kr2) (K1 n) (c8 n)).trans (by simp -implicitDefEqProofs only [l7, s8 n Kr2 Kr4 (fun st => loopEv [0, 4, 5, 6, 7] (fun s K => ev (cb7 n) s (E [(4, (K6 n Kr2 Kr4)), (3, (K5 n Kr2 Kr4)), (2, (K3 n Kr2)), (1, (K3 n Kr2)), (0, (K1 n))]) K) k st) kr2 kr4 (l7 n kr2 kr4 k) hK2 hK4 ih, q6_0 n Kr2 Kr4 kr2 kr4 hK2 hK4] <;> kernel_rfl)
noncomputable def db4 (n : Nat) (X5 X6 Y7 : XC) : XC :=
  (.aft (.seq (.seq (.reg (.op (.mv 16 (.t 5)) none <| .op (.mv 17 (.t 0)) none <| .op (.len 18 (.t 17) false) none <| .op (.bin 19 .lss (.t 16) (.t 18)) none <| .nil)) <|
  (.cond (.t 19)
  .skip
  (.pre [.keep [0, 4]] (.exit 2)))) <|
  (.seq (.aft (.block 3 (.seq (.seq (.reg (.op (.mv 22 (.t 0)) none <| .op (.mv 23 (.t 4)) none <| .op (.mv 24 (.t 5)) none <| .op (.call (some 25) (r08_pair.sp n) [.v (.t 22), .v (.t 23), .v (.t 24)]) none <| .op (.un 26 .not (.t 25)) none <| .nil)) <|
  (.cond (.t 26)
  (.pre [.keep [0, 4, 5]] (.exit 3))
  .skip)) <|
  (.seq (.reg (.op (.mv 6 (.c ⟨.nil 0, ()⟩)) none <| .nil)) <|
  (.seq (.aft (.seq (.reg (.op (.mv 7 (.c ⟨.int .i64, ((0 : Int) : Int)⟩)) none <| .nil)) <|
  (.block 4 (.pre [.coe 6 (.slX .N TRecord), .keep [0, 4, 5, 6, 7]] (.loop n [0, 4, 5, 6, 7] Y7)))) [.keep [6]]) X6)))) [.keep [0, 4, 5]]) X5)) [.keep [0, 4, 5]])
noncomputable abbrev cb4 (n : Nat) : XC := db4 n (c5 n) (c6 n) (cb7 n)
theorem q3_0_r (n : Nat) (Kr2 : Q) (K1 : Q) (Kb2 : Q) (X : XC) (x0 : List DRecord) (x4 : Int) : H3 n K1 Kb2 X (Z0 x0 x4) = (ev X (Z0 x0 x4) (E [(0, K1)]) Kb2 : Option R) := by kernel_rfl
theorem q3_0 (n : Nat) (Kr2 : Q) (kr2 : (List DRecord) → Int → Option ((List DRecord) × Bool × Unit)) (hK2 : ∀ (x0 : List DRecord) (x4 : Int), Kr2 (Z0 x0 x4) = kr2 x0 x4) (x0 : List DRecord) (x4 : Int) : K3 n Kr2 (Z0 x0 x4) = j3 n kr2 x0 x4 := (q3_0_r n Kr2 (K1 n) (Kb2 Kr2) (c3 n) x0 x4).trans (s3 n Kr2 kr2 hK2 x0 x4)
noncomputable def l4 (n : Nat) (kr2 : (List DRecord) → Int → Option ((List DRecord) × Bool × Unit)) : Nat → (List DRecord) → Int → Int → Option ((List DRecord) × Bool × Unit)
  | 0, _, _, _ => none
  | k + 1, x0, x4, x5 =>
  bif (decide (x5 < (x0.length : Int))) then ((r08_pair.f n x0 x4 x5).bind fun r1 => bif (!r1) then (j5 n kr2 (l4 n kr2 k) x0 x4 x5)
  else (l7 n kr2 (l4 n kr2 k) n x0 x4 x5 ([] : List DRecord) (0 : Int)))
  else (j3 n kr2 x0 x4)
theorem wb4 (n : Nat) (Kr2 : Q) (Kr4 : Q) (x0 : List DRecord) (x4 : Int) (x5 : Int) (K3 : Q) (K1 : Q) (X5 X6 Y7 : XC) : ev (db4 n X5 X6 Y7) (keepSt (Z1 x0 x4 x5) [0, 4, 5]) (E [(2, K3), (1, K3), (0, K1)]) Kr4 =
  (bif (decide (x5 < (x0.length : Int))) then ((r08_pair.f n x0 x4 x5).bind fun r1 => bif (!r1) then (ev X5 (Z1 x0 x4 x5) (E [(2, K3), (1, K3), (0, K1)]) (Kb4 Kr4))
  else (loopEv [0, 4, 5, 6, 7] (fun s K => ev Y7 s (E [(4, (H6 n (H5 n K3 K1 (Kb4 Kr4) X5) K3 K1 X6)), (3, (H5 n K3 K1 (Kb4 Kr4) X5)), (2, K3), (1, K3), (0, K1)]) K) n (Z3 x0 x4 x5 (([] : List DRecord) : List DRecord) (0 : Int))))
  else (K3 (Z0 x0 x4)) : Option R) := by kernel_rfl
theorem l4_ok (n : Nat) (Kr2 : Q) (kr2 : (List DRecord) → Int → Option ((List DRecord) × Bool × Unit)) (hK2 : ∀ (x0 : List DRecord) (x4 : Int), Kr2 (Z0 x0 x4) = kr2 x0 x4) (k : Nat) : ∀ (x0 : List DRecord) (x4 : Int) (x5 : Int), loopEv [0, 4, 5] (fun s K => ev (cb4 n) s (E [(2, (K3 n Kr2)), (1, (K3 n Kr2)), (0, (K1 n))]) K) k (Z1 x0 x4 x5) = l4 n kr2 k x0 x4 x5 := by
  induction k with
  | zero => intros; rfl
  | succ k ih =>
    intro x0 x4 x5
    exact (wb4 n Kr2 (fun st => loopEv [0, 4, 5] (fun s K => ev (cb4 n) s (E [(2, (K3 n Kr2)), (1, (K3 n Kr2)), (0, (K1 n))]) K) k st) x0 x4 x5 (K3 n Kr2) (K1 n) (c5 n) (c6 n) (cb7 n)).trans (by simp -implicitDefEqProofs only [l4, s5 n Kr2 (fun st => loopEv [0, 4, 5] (fun s K => ev (cb4 n) s (E [(2, (K3 n Kr2)), (1, (K3 n Kr2)), (0, (K1 n))]) K) k st) kr2 (l4 n kr2 k) hK2 ih, l7_ok n Kr2 (fun st => loopEv [0, 4, 5] (fun s K => ev (cb4 n) s (E [(2, (K3 n Kr2)), (1, (K3 n Kr2)), (0, (K1 n))]) K) k st) kr2 (l4 n kr2 k) hK2 ih, q3_0 n Kr2 kr2 hK2] <;> kernel_rfl)
noncomputable def db2 (n : Nat) (X3 Y4 : XC) : XC :=
  (.aft (.seq (.seq (.reg (.op (.mv 8 (.t 4)) none <| .op (.mv 9 (.t 0)) none <| .op (.len 10 (.t 9) false) none <| .op (.bin 11 .lss (.t 8) (.t 10)) none <| .nil)) <|
  (.cond (.t 11)
  .skip
  (.pre [.keep []] (.exit 0)))) <|
  (.seq (.aft (.block 1 (.seq (.reg (.op (.mv 14 (.t 4)) none <| .op (.bin 15 .add (.t 14) (.c ⟨.int .i64, ((1 : Int) : Int)⟩)) none <| .op (.mv 5 (.t 15)) none <| .nil)) <|
  (.block 2 (.pre [.keep [0, 4, 5]] (.loop n [0, 4, 5] Y4))))) [.keep [0, 4]]) X3)) [.keep [0, 4]])
noncomputable abbrev cb2 (n : Nat) : XC := db2 n (c3 n) (cb4 n)
theorem q1_0_r (n : Nat) (X : XC)  : H1 n X [] = (ev X [] (E []) (retK rs ps r) : Option R) := by kernel_rfl
theorem q1_0 (n : Nat)  : K1 n [] = j1 n  := (q1_0_r n (c1 n) ).trans (s1 n )
noncomputable def l2 (n : Nat) : Nat → (List DRecord) → Int → Option ((List DRecord) × Bool × Unit)
  | 0, _, _ => none
  | k + 1, x0, x4 =>
  bif (decide (x4 < (x0.length : Int))) then (l4 n (l2 n k) n x0 x4 (IntKind.i64.wrap (x4 + (1 : Int))))
  else (j1 n )
theorem wb2 (n : Nat) (Kr2 : Q) (x0 : List DRecord) (x4 : Int) (K1 : Q) (X3 Y4 : XC) : ev (db2 n X3 Y4) (keepSt (Z0 x0 x4) [0, 4]) (E [(0, K1)]) Kr2 =
  (bif (decide (x4 < (x0.length : Int))) then (loopEv [0, 4, 5] (fun s K => ev Y4 s (E [(2, (H3 n K1 (Kb2 Kr2) X3)), (1, (H3 n K1 (Kb2 Kr2) X3)), (0, K1)]) K) n (Z1 x0 x4 (IntKind.i64.wrap (x4 + (1 : Int)))))
  else (K1 []) : Option R) := by kernel_rfl
theorem l2_ok (n : Nat) (k : Nat) : ∀ (x0 : List DRecord) (x4 : Int), loopEv [0, 4] (fun s K => ev (cb2 n) s (E [(0, (K1 n))]) K) k (Z0 x0 x4) = l2 n k x0 x4 := by
  induction k with
  | zero => intros; rfl
  | succ k ih =>
    intro x0 x4
    exact (wb2 n (fun st => loopEv [0, 4] (fun s K => ev (cb2 n) s (E [(0, (K1 n))]) K) k st) x0 x4 (K1 n) (c3 n) (cb4 n)).trans (by simp -implicitDefEqProofs only [l2, l4_ok n (fun st => loopEv [0, 4] (fun s K => ev (cb2 n) s (E [(0, (K1 n))]) K) k st) (l2 n k) ih, q1_0 n] <;> kernel_rfl)
noncomputable def d (n : Nat) (X1 Y2 : XC) : XC :=
  (.seq (.reg (.op (.mv 2 (.c ⟨.nil 0, ()⟩)) none <| .op (.mv 3 (.c ⟨.bool, (false : Bool)⟩)) none <| .nil)) <|
  (.seq (.aft (.seq (.reg (.op (.mv 4 (.c ⟨.int .i64, ((0 : Int) : Int)⟩)) none <| .nil)) <|
  (.block 0 (.pre [.keep [0, 4]] (.loop n [0, 4] Y2)))) [.keep []]) X1))
noncomputable abbrev c (n : Nat) : XC := d n (c1 n) (cb2 n)
noncomputable def f (n : Nat) (a0 : List DRecord) : Option ((List DRecord) × Bool × Unit) :=
  l2 n n a0 (0 : Int)
theorem w (n : Nat) (a0 : List DRecord) (X1 Y2 : XC) : evFn (d n X1 Y2) rs ps r (a0, ()) =
  (loopEv [0, 4] (fun s K => ev Y2 s (E [(0, (H1 n X1))]) K) n (Z0 a0 (0 : Int)) : Option R) := by kernel_rfl
theorem ok (n : Nat) (a0 : List DRecord) : evFn (c n) rs ps r (a0, ()) = f n a0 := (w n a0 (c1 n) (cb2 n)).trans (by simp -implicitDefEqProofs only [f, l2_ok n] <;> kernel_rfl)
noncomputable def sp (n : Nat) : FSpec := { f := 36, ps := ps, r := r, run := fun x => f n x.1 }
theorem calls (n : Nat) : (c n).calls = [r08_pair.sp n, r08_Touches.sp n] := by kernel_rfl
theorem fits (n : Nat) : fnB tab hd Try.f36 (c n) rs (sp n).ps (sp n).r = true := by kernel_rfl
theorem sound (n : Nat) : Sound Try.prog (sp n) := by
  refine fnB_sound tabOk eqFacts mixed (fn := Try.f36) (c := c n) (rs := rs) (by kernel_rfl) ?_ (fits n) ?_
  · rw [calls]
    intro s hs
    simp only [List.mem_cons, List.not_mem_nil, or_false] at hs
    rcases hs with rfl | rfl
    · exact r08_pair.meets n
    · exact r08_Touches.meets n
  · rintro ⟨a0, ⟨⟩⟩ y h
    exact (ok n a0).trans h
theorem meets (n : Nat) : Meets Try.prog (sp n) := (sound n).meets
end r08_once
/-! backwater/backwaterref08.Optimise -/
namespace r08_Optimise
abbrev ps : List (Ty × Bool) := [(.slB .U false TRecord, false)]
abbrev r : Ty := .slX .N TRecord
abbrev rs : List RV := [.t 2]
abbrev R : Type := (rtOf ps r).den
abbrev Q : Type := St → Option R
abbrev E (l : List (Nat × Q)) : Ks R := ⟨retK rs ps r, l⟩
abbrev Z0 (x3 : Ty.den (.slX .N TRecord)) : St := [(3, some ⟨.slX .N TRecord, x3⟩)]
abbrev Z1 (x0 : Ty.den (.slB .U false TRecord)) (x3 : Ty.den (.slX .N TRecord)) (x4 : Ty.den (.int .i64)) : St := [(0, some ⟨.slB .U false TRecord, x0⟩), (3, some ⟨.slX .N TRecord, x3⟩), (4, some ⟨.int .i64, x4⟩)]
noncomputable def Kb2 (Kr2 : Q) : Q := fun st => ghK [.keep [3]] st Kr2
noncomputable def db2 (n : Nat) : XC :=
  (.aft (.block 3 (.seq (.reg (.op (.bor 24 3) none <| .op (.call (some 25) (r08_once.sp n) [.v (.t 24)]) none <| .op (.take 23 25) none <| .op (.ext 26 23 0) none <| .op (.ext 27 23 1) none <| .op (.take 5 26) none <| .op (.mv 6 (.t 27)) none <| .nil)) <|
  (.seq (.seq (.reg (.op (.mv 28 (.t 6)) none <| .op (.un 29 .not (.t 28)) none <| .nil)) <|
  (.cond (.t 29)
  (.seq (.reg (.op (.take 30 3) none <| .op (.take 2 30) none <| .nil)) <|
  .ret)
  .skip)) <|
  (.pre [.keep [5]] (.reg (.op (.take 31 5) none <| .op (.take 3 31) none <| .nil)))))) [.keep [3]])
noncomputable abbrev cb2 (n : Nat) : XC := db2 n
noncomputable def l2 (n : Nat) : Nat → (List DRecord) → Option (List DRecord)
  | 0, _ => none
  | k + 1, x3 =>
  (r08_once.f n x3).bind fun r1 => bif (!r1.2.1) then (some x3)
  else (l2 n k r1.1)
theorem wb2 (n : Nat) (Kr2 : Q) (x3 : List DRecord) : ev (db2 n) (keepSt (Z0 x3) [3]) (E [(2, (retK rs ps r))]) Kr2 =
  ((r08_once.f n x3).bind fun r1 => bif (!r1.2.1) then (some x3)
  else (Kr2 (Z0 r1.1)) : Option R) := by kernel_rfl
theorem l2_ok (n : Nat) (k : Nat) : ∀ (x3 : List DRecord), loopEv [3] (fun s K => ev (cb2 n) s (E [(2, (retK rs ps r))]) K) k (Z0 x3) = l2 n k x3 := by
  induction k with
  | zero => intros; rfl
  | succ k ih =>
    intro x3
    exact (wb2 n (fun st => loopEv [3] (fun s K => ev (cb2 n) s (E [(2, (retK rs ps r))]) K) k st) x3).trans (by simp -implicitDefEqProofs only [l2, ih] <;> kernel_rfl)
noncomputable def d1 (n : Nat) (Y2 : XC) : XC :=
  (.block 2 (.pre [.keep [3]] (.loop n [3] Y2)))
noncomputable abbrev c1 (n : Nat) : XC := d1 n (cb2 n)
noncomputable def j1 (n : Nat) (x3 : List DRecord) : Option (List DRecord) :=
  l2 n n x3
theorem w1 (n : Nat) (x3 : List DRecord) (Y2 : XC) : ev (d1 n Y2) (Z0 x3) (E []) (retK rs ps r) =
  (loopEv [3] (fun s K => ev Y2 s (E [(2, (retK rs ps r))]) K) n (Z0 x3) : Option R) := by kernel_rfl
theorem s1 (n : Nat) (x3 : List DRecord) : ev (c1 n) (Z0 x3) (E []) (retK rs ps r) = j1 n x3 := (w1 n x3 (cb2 n)).trans (by simp -implicitDefEqProofs only [j1, l2_ok n] <;> kernel_rfl)
noncomputable def H1 (n : Nat) (X : XC) : Q := fun st => ghK [.keep [3]] st fun st => ev X st (E []) (retK rs ps r)
noncomputable abbrev K1 (n : Nat) : Q := H1 n (c1 n)
noncomputable def Kb3 (Kr3 : Q) : Q := fun st => ghK [.keep [0, 3, 4]] st Kr3
noncomputable def d4 (n : Nat) : XC :=
  (.aft (.reg (.op (.mv 11 (.t 4)) none <| .op (.bin 12 .add (.t 11) (.c ⟨.int .i64, ((1 : Int) : Int)⟩)) none <| .op (.mv 4 (.t 12)) none <| .nil)) [.keep [0, 3, 4]])
noncomputable abbrev c4 (n : Nat) : XC := d4 n
theorem qb3_0 (Kr3 : Q) (kr3 : (List DRecord) → (List DRecord) → Int → Option (List DRecord)) (hK3 : ∀ (x0 : List DRecord) (x3 : List DRecord) (x4 : Int), Kr3 (Z1 x0 x3 x4) = kr3 x0 x3 x4) (x0 : List DRecord) (x3 : List DRecord) (x4 : Int) : Kb3 Kr3 (Z1 x0 x3 x4) = kr3 x0 x3 x4 := (by kernel_rfl : _ = Kr3 (Z1 x0 x3 x4)).trans (hK3 x0 x3 x4)
noncomputable def j4 (n : Nat) (kr3 : (List DRecord) → (List DRecord) → Int → Option (List DRecord)) (x0 : List DRecord) (x3 : List DRecord) (x4 : Int) : Option (List DRecord) :=
  kr3 x0 x3 (IntKind.i64.wrap (x4 + (1 : Int)))
theorem w4 (n : Nat) (Kr3 : Q) (x0 : List DRecord) (x3 : List DRecord) (x4 : Int) (K1 : Q) (Kb3 : Q) : ev (d4 n) (Z1 x0 x3 x4) (E [(0, K1)]) Kb3 =
  (Kb3 (Z1 x0 x3 (IntKind.i64.wrap (x4 + (1 : Int)))) : Option R) := by kernel_rfl
theorem s4 (n : Nat) (Kr3 : Q) (kr3 : (List DRecord) → (List DRecord) → Int → Option (List DRecord)) (hK3 : ∀ (x0 : List DRecord) (x3 : List DRecord) (x4 : Int), Kr3 (Z1 x0 x3 x4) = kr3 x0 x3 x4) (x0 : List DRecord) (x3 : List DRecord) (x4 : Int) : ev (c4 n) (Z1 x0 x3 x4) (E [(0, (K1 n))]) (Kb3 Kr3) = j4 n kr3 x0 x3 x4 := (w4 n Kr3 x0 x3 x4 (K1 n) (Kb3 Kr3)).trans (by simp -implicitDefEqProofs only [j4, qb3_0 Kr3 kr3 hK3] <;> kernel_rfl)
noncomputable def H4 (n : Nat) (K1 : Q) (Kb3 : Q) (X : XC) : Q := fun st => ghK [.keep [0, 3, 4]] st fun st => ev X st (E [(0, K1)]) Kb3
noncomputable abbrev K4 (n : Nat) (Kr3 : Q) : Q := H4 n (K1 n) (Kb3 Kr3) (c4 n)
noncomputable def db3 (n : Nat) (X4 : XC) : XC :=
  (.aft (.seq (.seq (.reg (.op (.mv 7 (.t 4)) none <| .op (.mv 8 (.t 0)) none <| .op (.len 9 (.t 8) false) none <| .op (.bin 10 .lss (.t 7) (.t 9)) none <| .nil)) <|
  (.cond (.t 10)
  .skip
  (.pre [.keep [3]] (.exit 0)))) <|
  (.seq (.aft (.block 1 (.seq (.reg (.op (.mv 13 (.t 0)) none <| .op (.mv 14 (.t 4)) none <| .op (.call (some 15) (r08_needed.sp n) [.v (.t 13), .v (.t 14)]) none <| .nil)) <|
  (.cond (.t 15)
  (.reg (.op (.take 16 3) none <| .op (.mv 17 (.t 0)) none <| .op (.mv 18 (.t 4)) none <| .op (.idxA 19 (.t 17) (.t 18) 9 0) none <| .op (.ld 20 19 9 true) none <| .op (.bsl 21 TRecord [(.t 20)]) none <| .op (.app 22 16 (.t 21) 88 9) none <| .op (.take 3 22) none <| .nil))
  .skip))) [.keep [0, 3, 4]]) X4)) [.keep [0, 3, 4]])
noncomputable abbrev cb3 (n : Nat) : XC := db3 n (c4 n)
theorem q1_0_r (n : Nat) (X : XC) (x3 : List DRecord) : H1 n X (Z0 x3) = (ev X (Z0 x3) (E []) (retK rs ps r) : Option R) := by kernel_rfl
theorem q1_0 (n : Nat) (x3 : List DRecord) : K1 n (Z0 x3) = j1 n x3 := (q1_0_r n (c1 n) x3).trans (s1 n x3)
noncomputable def l3 (n : Nat) : Nat → (List DRecord) → (List DRecord) → Int → Option (List DRecord)
  | 0, _, _, _ => none
  | k + 1, x0, x3, x4 =>
  bif (decide (x4 < (x0.length : Int))) then ((r08_needed.f n x0 x4).bind fun r1 => bif r1 then (idxK x0 x4 fun e2 => appK x3.length ([e2] : List DRecord).length 88 (j4 n (l3 n k) x0 (x3 ++ ([e2] : List DRecord)) x4))
  else (j4 n (l3 n k) x0 x3 x4))
  else (j1 n x3)
theorem wb3 (n : Nat) (Kr3 : Q) (x0 : List DRecord) (x3 : List DRecord) (x4 : Int) (K1 : Q) (X4 : XC) : ev (db3 n X4) (keepSt (Z1 x0 x3 x4) [0, 3, 4]) (E [(0, K1)]) Kr3 =
  (bif (decide (x4 < (x0.length : Int))) then ((r08_needed.f n x0 x4).bind fun r1 => bif r1 then (idxK x0 x4 fun e2 => appK x3.length ([e2] : List DRecord).length 88 (ev X4 (Z1 x0 ((x3 ++ ([e2] : List DRecord)) : List DRecord) x4) (E [(0, K1)]) (Kb3 Kr3)))
  else (ev X4 (Z1 x0 x3 x4) (E [(0, K1)]) (Kb3 Kr3)))
  else (K1 (Z0 x3)) : Option R) := by kernel_rfl
theorem l3_ok (n : Nat) (k : Nat) : ∀ (x0 : List DRecord) (x3 : List DRecord) (x4 : Int), loopEv [0, 3, 4] (fun s K => ev (cb3 n) s (E [(0, (K1 n))]) K) k (Z1 x0 x3 x4) = l3 n k x0 x3 x4 := by
  induction k with
  | zero => intros; rfl
  | succ k ih =>
    intro x0 x3 x4
    exact (wb3 n (fun st => loopEv [0, 3, 4] (fun s K => ev (cb3 n) s (E [(0, (K1 n))]) K) k st) x0 x3 x4 (K1 n) (c4 n)).trans (by simp -implicitDefEqProofs only [l3, s4 n (fun st => loopEv [0, 3, 4] (fun s K => ev (cb3 n) s (E [(0, (K1 n))]) K) k st) (l3 n k) ih, q1_0 n] <;> kernel_rfl)
noncomputable def d (n : Nat) (X1 Y3 : XC) : XC :=
  (.seq (.reg (.op (.mv 2 (.c ⟨.nil 0, ()⟩)) none <| .nil)) <|
  (.seq (.reg (.op (.mv 3 (.c ⟨.nil 0, ()⟩)) none <| .nil)) <|
  (.seq (.aft (.seq (.reg (.op (.mv 4 (.c ⟨.int .i64, ((0 : Int) : Int)⟩)) none <| .nil)) <|
  (.block 0 (.pre [.coe 3 (.slX .N TRecord), .keep [0, 3, 4]] (.loop n [0, 3, 4] Y3)))) [.keep [3]]) X1)))
noncomputable abbrev c (n : Nat) : XC := d n (c1 n) (cb3 n)
noncomputable def f (n : Nat) (a0 : List DRecord) : Option (List DRecord) :=
  l3 n n a0 ([] : List DRecord) (0 : Int)
theorem w (n : Nat) (a0 : List DRecord) (X1 Y3 : XC) : evFn (d n X1 Y3) rs ps r (a0, ()) =
  (loopEv [0, 3, 4] (fun s K => ev Y3 s (E [(0, (H1 n X1))]) K) n (Z1 a0 (([] : List DRecord) : List DRecord) (0 : Int)) : Option R) := by kernel_rfl
theorem ok (n : Nat) (a0 : List DRecord) : evFn (c n) rs ps r (a0, ()) = f n a0 := (w n a0 (c1 n) (cb3 n)).trans (by simp -implicitDefEqProofs only [f, l3_ok n] <;> kernel_rfl)
noncomputable def sp (n : Nat) : FSpec := { f := 14, ps := ps, r := r, run := fun x => f n x.1 }
theorem calls (n : Nat) : (c n).calls = [r08_needed.sp n, r08_once.sp n] := by kernel_rfl
theorem fits (n : Nat) : fnB tab hd Try.f14 (c n) rs (sp n).ps (sp n).r = true := by kernel_rfl
theorem sound (n : Nat) : Sound Try.prog (sp n) := by
  refine fnB_sound tabOk eqFacts mixed (fn := Try.f14) (c := c n) (rs := rs) (by kernel_rfl) ?_ (fits n) ?_
  · rw [calls]
    intro s hs
    simp only [List.mem_cons, List.not_mem_nil, or_false] at hs
    rcases hs with rfl | rfl
    · exact r08_needed.meets n
    · exact r08_once.meets n
  · rintro ⟨a0, ⟨⟩⟩ y h
    exact (ok n a0).trans h
theorem meets (n : Nat) : Meets Try.prog (sp n) := (sound n).meets
end r08_Optimise
end Go.Proofs.Ytggidaedacngbaa.S
