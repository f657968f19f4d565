/- The functions of the seat: annotated code, shallow functions, and that each keeps its contract. Printed by pr.py. -/
import Derived.Test.YtpkpihcdbgckkaaSTab
namespace Go.Proofs.Ytpkpihcdbgckkaa.S
open Go Go.Proofs Go.Proofs.Bw
set_option maxRecDepth 100000
set_option linter.unusedVariables false
abbrev TboundsError : Ty := .pair (.int .i64) (.pair (.int .i64) (.pair .bool (.pair (.int .u8) .unit)))
abbrev DboundsError : Type := Int × Int × Bool × Int × Unit
abbrev TerrorAddressString : Ty := .pair .str (.pair (.int .u64) .unit)
abbrev DerrorAddressString : Type := (List Int) × Int × Unit
abbrev TPacket : Ty := .pair (.int .u8) (.pair (.int .u8) (.pair (.int .u8) (.pair (.int .u32) (.pair (.int .u32) (.pair .str .unit)))))
abbrev DPacket : Type := Int × Int × Int × Int × Int × (List Int) × Unit
abbrev TDeed : Ty := .pair (.int .i64) (.pair .str (.pair (.int .u64) (.pair TPacket (.pair (.int .u8) (.pair .bool .unit)))))
abbrev DDeed : Type := Int × (List Int) × Int × DPacket × Int × Bool × Unit
abbrev Tpast : Ty := .pair (.int .u8) (.pair (.int .u32) (.pair (.int .u32) (.pair .str .unit)))
abbrev Dpast : Type := Int × Int × Int × (List Int) × Unit
abbrev TCallee : Ty := .pair (.arr 3 Tpast) .unit
abbrev DCallee : Type := (List Dpast) × Unit
abbrev TCaller : Ty := .pair TPacket (.pair .bool (.pair (.int .i64) (.pair (.int .u64) .unit)))
abbrev DCaller : Type := DPacket × Bool × Int × Int × Unit
abbrev TCaller' : Ty := .pair (.int .u8) (.pair (.int .u32) (.pair (.int .u32) (.pair .bool (.pair .str (.pair (.int .i64) (.pair (.int .u64) .unit))))))
abbrev DCaller' : Type := Int × Int × Int × Bool × (List Int) × Int × Int × Unit
abbrev Ttaken : Ty := .pair (.int .i64) (.pair (.int .u32) (.pair (.int .u32) (.pair .str .unit)))
abbrev Dtaken : Type := Int × Int × Int × (List Int) × Unit
abbrev TCallee' : Ty := .pair (.arr 4 Ttaken) .unit
abbrev DCallee' : Type := (List Dtaken) × Unit
abbrev TReader : Ty := .pair (.slB .U false (.int .u8)) (.pair .bool .unit)
abbrev DReader : Type := (List Int) × Bool × Unit

/-! backwater/rpc.NewCallee -/
namespace rpc_NewCallee
abbrev ps : List (Ty × Bool) := []
abbrev r : Ty := .box TCallee
abbrev rs : List RV := [.t 0]
abbrev R : Type := (rtOf ps r).den
abbrev Q : Type := St → Option R
abbrev E (l : List (Nat × Q)) : Ks R := ⟨retK rs ps r, l⟩
noncomputable def d (n : Nat) : XC :=
  (.seq (.reg (.op (.mv 0 (.c ⟨.nil 1, ()⟩)) none <| .nil)) <|
  (.seq (.reg (.op (.alloc 1 ⟨TCallee, (((List.replicate 3 ((0 : Int), (0 : Int), (0 : Int), ([] : List Int), ())), ()) : DCallee)⟩) none <| .op (.take 0 1) none <| .nil)) <|
  .ret))
noncomputable abbrev c (n : Nat) : XC := d n
noncomputable def f (n : Nat)  : Option DCallee :=
  some ((List.replicate 3 ((0 : Int), (0 : Int), (0 : Int), ([] : List Int), ())), ())
theorem ok (n : Nat)  : evFn (c n) rs ps r () = f n  := by kernel_rfl
noncomputable def sp (n : Nat) : FSpec := { f := 11, ps := ps, r := r, run := fun x => f n  }
theorem calls (n : Nat) : (c n).calls = [] := by kernel_rfl
theorem fits (n : Nat) : fnB tab hd Try.f11 (c n) rs (sp n).ps (sp n).r = true := by kernel_rfl
theorem sound (n : Nat) : Sound Try.prog (sp n) := by
  refine fnB_sound tabOk eqFacts mixed (fn := Try.f11) (c := c n) (rs := rs) (by kernel_rfl) ?_ (fits n) ?_
  · rw [calls]
    intro s hs; cases hs
  · rintro ⟨⟩ y h
    exact (ok n ).trans h
theorem meets (n : Nat) : Meets Try.prog (sp n) := (sound n).meets
end rpc_NewCallee
/-! backwater/rpc.LoadCallee$1 -/
namespace rpc_LoadCallee_1
abbrev ps : List (Ty × Bool) := [(.int .i64, false), (.box (.slB .U false (.int .u8)), true)]
abbrev r : Ty := .tup (.pair (.int .u32) (.pair .bool .unit))
abbrev rs : List RV := [.t 3, .t 4]
abbrev R : Type := (rtOf ps r).den
abbrev Q : Type := St → Option R
abbrev E (l : List (Nat × Q)) : Ks R := ⟨retK rs ps r, l⟩
abbrev Z0 (x0 : Ty.den (.int .i64)) (x1 : Ty.den (.box (.slB .U false (.int .u8)))) (x3 : Ty.den (.int .u32)) : St := [(0, some ⟨.int .i64, x0⟩), (1, some ⟨.box (.slB .U false (.int .u8)), x1⟩), (3, some ⟨.int .u32, x3⟩)]
abbrev Z1 (x0 : Ty.den (.int .i64)) (x1 : Ty.den (.box (.slB .U false (.int .u8)))) (x3 : Ty.den (.int .u32)) (x13 : Ty.den (.slB .U false (.int .u8))) (x14 : Ty.den (.int .i64)) (x15 : Ty.den (.int .i64)) : St := [(0, some ⟨.int .i64, x0⟩), (1, some ⟨.box (.slB .U false (.int .u8)), x1⟩), (3, some ⟨.int .u32, x3⟩), (13, some ⟨.slB .U false (.int .u8), x13⟩), (14, some ⟨.int .i64, x14⟩), (15, some ⟨.int .i64, x15⟩)]
noncomputable def d1 (n : Nat) : XC :=
  (.seq (.reg (.op (.ld 25 1 1 false) none <| .op (.mv 26 (.t 0)) none <| .op (.slc 27 (.t 25) (some (.t 26)) none none 1) none <| .op (.st 1 (.t 27) 1) none <| .nil)) <|
  (.seq (.reg (.op (.mv 28 (.t 3)) none <| .op (.mv 3 (.t 28)) none <| .op (.mv 4 (.c ⟨.bool, (true : Bool)⟩)) none <| .nil)) <|
  .ret))
noncomputable abbrev c1 (n : Nat) : XC := d1 n
noncomputable def j1 (n : Nat) (x0 : Int) (x1 : List Int) (x3 : Int) : Option ((List Int) × (Int × Bool × Unit)) :=
  sliceK x0 (x1.length : Int) x1.length (some ((cut x1 x0 (x1.length : Int)), x3, true, ()))
theorem s1 (n : Nat) (x0 : Int) (x1 : List Int) (x3 : Int) : ev (c1 n) (Z0 x0 x1 x3) (E []) (retK rs ps r) = j1 n x0 x1 x3 := by kernel_rfl
noncomputable def H1 (n : Nat) (X : XC) : Q := fun st => ghK [.keep [0, 1, 3]] st fun st => ev X st (E []) (retK rs ps r)
noncomputable abbrev K1 (n : Nat) : Q := H1 n (c1 n)
noncomputable def Kb2 (Kr2 : Q) : Q := fun st => ghK [.keep [0, 1, 3, 13, 14, 15]] st Kr2
noncomputable def d3 (n : Nat) : XC :=
  (.aft (.reg (.op (.bin 24 .add (.t 15) (.c ⟨.int .i64, ((1 : Int) : Int)⟩)) none <| .op (.mv 15 (.t 24)) none <| .nil)) [.keep [0, 1, 3, 13, 14, 15]])
noncomputable abbrev c3 (n : Nat) : XC := d3 n
theorem qb2_0 (Kr2 : Q) (kr2 : Int → (List Int) → Int → (List Int) → Int → Int → Option ((List Int) × (Int × Bool × Unit))) (hK2 : ∀ (x0 : Int) (x1 : List Int) (x3 : Int) (x13 : List Int) (x14 : Int) (x15 : Int), Kr2 (Z1 x0 x1 x3 x13 x14 x15) = kr2 x0 x1 x3 x13 x14 x15) (x0 : Int) (x1 : List Int) (x3 : Int) (x13 : List Int) (x14 : Int) (x15 : Int) : Kb2 Kr2 (Z1 x0 x1 x3 x13 x14 x15) = kr2 x0 x1 x3 x13 x14 x15 := (by kernel_rfl : _ = Kr2 (Z1 x0 x1 x3 x13 x14 x15)).trans (hK2 x0 x1 x3 x13 x14 x15)
noncomputable def j3 (n : Nat) (kr2 : Int → (List Int) → Int → (List Int) → Int → Int → Option ((List Int) × (Int × Bool × Unit))) (x0 : Int) (x1 : List Int) (x3 : Int) (x13 : List Int) (x14 : Int) (x15 : Int) : Option ((List Int) × (Int × Bool × Unit)) :=
  kr2 x0 x1 x3 x13 x14 (IntKind.i64.wrap (x15 + (1 : Int)))
theorem w3 (n : Nat) (Kr2 : Q) (x0 : Int) (x1 : List Int) (x3 : Int) (x13 : List Int) (x14 : Int) (x15 : Int) (K1 : Q) (Kb2 : Q) : ev (d3 n) (Z1 x0 x1 x3 x13 x14 x15) (E [(0, K1)]) Kb2 =
  (Kb2 (Z1 x0 x1 x3 x13 x14 (IntKind.i64.wrap (x15 + (1 : Int)))) : Option R) := by kernel_rfl
theorem s3 (n : Nat) (Kr2 : Q) (kr2 : Int → (List Int) → Int → (List Int) → Int → Int → Option ((List Int) × (Int × Bool × Unit))) (hK2 : ∀ (x0 : Int) (x1 : List Int) (x3 : Int) (x13 : List Int) (x14 : Int) (x15 : Int), Kr2 (Z1 x0 x1 x3 x13 x14 x15) = kr2 x0 x1 x3 x13 x14 x15) (x0 : Int) (x1 : List Int) (x3 : Int) (x13 : List Int) (x14 : Int) (x15 : Int) : ev (c3 n) (Z1 x0 x1 x3 x13 x14 x15) (E [(0, (K1 n))]) (Kb2 Kr2) = j3 n kr2 x0 x1 x3 x13 x14 x15 := (w3 n Kr2 x0 x1 x3 x13 x14 x15 (K1 n) (Kb2 Kr2)).trans (by simp -implicitDefEqProofs only [j3, qb2_0 Kr2 kr2 hK2] <;> kernel_rfl)
noncomputable def H3 (n : Nat) (K1 : Q) (Kb2 : Q) (X : XC) : Q := fun st => ghK [.keep [0, 1, 3, 13, 14, 15]] st fun st => ev X st (E [(0, K1)]) Kb2
noncomputable abbrev K3 (n : Nat) (Kr2 : Q) : Q := H3 n (K1 n) (Kb2 Kr2) (c3 n)
noncomputable def db2 (n : Nat) (X3 : XC) : XC :=
  (.aft (.seq (.reg (.op (.bin 16 .lss (.t 15) (.t 14)) none <| .nil)) <|
  (.seq (.cond (.t 16)
  .skip
  (.pre [.keep [0, 1, 3]] (.exit 0))) <|
  (.seq (.aft (.block 1 (.seq (.reg (.op (.idxA 17 (.t 13) (.t 15) 1 0) none <| .op (.ld 18 17 1 false) none <| .op (.mv 6 (.t 18)) none <| .nil)) <|
  (.reg (.op (.mv 19 (.t 3)) none <| .op (.bin 20 .shl (.t 19) (.c ⟨.int .u64, ((8 : Int) : Int)⟩)) none <| .op (.mv 21 (.t 6)) none <| .op (.cvt 22 (.int .u32) (.t 21)) none <| .op (.bin 23 .or (.t 20) (.t 22)) none <| .op (.mv 3 (.t 23)) none <| .nil)))) [.keep [0, 1, 3, 13, 14, 15]]) X3))) [.keep [0, 1, 3, 13, 14, 15]])
noncomputable abbrev cb2 (n : Nat) : XC := db2 n (c3 n)
theorem q1_0_r (n : Nat) (X : XC) (x0 : Int) (x1 : List Int) (x3 : Int) : H1 n X (Z0 x0 x1 x3) = (ev X (Z0 x0 x1 x3) (E []) (retK rs ps r) : Option R) := by kernel_rfl
theorem q1_0 (n : Nat) (x0 : Int) (x1 : List Int) (x3 : Int) : K1 n (Z0 x0 x1 x3) = j1 n x0 x1 x3 := (q1_0_r n (c1 n) x0 x1 x3).trans (s1 n x0 x1 x3)
noncomputable def l2 (n : Nat) : Nat → Int → (List Int) → Int → (List Int) → Int → Int → Option ((List Int) × (Int × Bool × Unit))
  | 0, _, _, _, _, _, _ => none
  | k + 1, x0, x1, x3, x13, x14, x15 =>
  bif (decide (x15 < x14)) then (idxK x13 x15 fun e1 => geK (8 : Int) (j3 n (l2 n k) x0 x1 (ior IntKind.u32 (ishl IntKind.u32 x3 ((8 : Int)).toNat) (IntKind.u32.wrap e1)) x13 x14 x15))
  else (j1 n x0 x1 x3)
theorem wb2 (n : Nat) (Kr2 : Q) (x0 : Int) (x1 : List Int) (x3 : Int) (x13 : List Int) (x14 : Int) (x15 : Int) (K1 : Q) (X3 : XC) : ev (db2 n X3) (keepSt (Z1 x0 x1 x3 x13 x14 x15) [0, 1, 3, 13, 14, 15]) (E [(0, K1)]) Kr2 =
  (bif (decide (x15 < x14)) then (idxK x13 x15 fun e1 => geK (8 : Int) (ev X3 (Z1 x0 x1 (ior IntKind.u32 (ishl IntKind.u32 x3 ((8 : Int)).toNat) (IntKind.u32.wrap e1)) x13 x14 x15) (E [(0, K1)]) (Kb2 Kr2)))
  else (K1 (Z0 x0 x1 x3)) : Option R) := by kernel_rfl
theorem l2_ok (n : Nat) (k : Nat) : ∀ (x0 : Int) (x1 : List Int) (x3 : Int) (x13 : List Int) (x14 : Int) (x15 : Int), loopEv [0, 1, 3, 13, 14, 15] (fun s K => ev (cb2 n) s (E [(0, (K1 n))]) K) k (Z1 x0 x1 x3 x13 x14 x15) = l2 n k x0 x1 x3 x13 x14 x15 := by
  induction k with
  | zero => intros; rfl
  | succ k ih =>
    intro x0 x1 x3 x13 x14 x15
    exact (wb2 n (fun st => loopEv [0, 1, 3, 13, 14, 15] (fun s K => ev (cb2 n) s (E [(0, (K1 n))]) K) k st) x0 x1 x3 x13 x14 x15 (K1 n) (c3 n)).trans (by simp -implicitDefEqProofs only [l2, s3 n (fun st => loopEv [0, 1, 3, 13, 14, 15] (fun s K => ev (cb2 n) s (E [(0, (K1 n))]) K) k st) (l2 n k) ih, q1_0 n] <;> kernel_rfl)
noncomputable def d (n : Nat) (X1 Y2 : XC) : XC :=
  (.seq (.reg (.op (.mv 3 (.c ⟨.int .u32, ((0 : Int) : Int)⟩)) none <| .op (.mv 4 (.c ⟨.bool, (false : Bool)⟩)) none <| .nil)) <|
  (.seq (.seq (.reg (.op (.ld 7 1 1 false) none <| .op (.len 8 (.t 7) false) none <| .op (.mv 9 (.t 0)) none <| .op (.bin 10 .lss (.t 8) (.t 9)) none <| .nil)) <|
  (.cond (.t 10)
  (.seq (.reg (.op (.mv 3 (.c ⟨.int .u32, ((0 : Int) : Int)⟩)) none <| .op (.mv 4 (.c ⟨.bool, (false : Bool)⟩)) none <| .nil)) <|
  .ret)
  .skip)) <|
  (.seq (.aft (.seq (.reg (.op (.ld 11 1 1 false) none <| .op (.mv 12 (.t 0)) none <| .op (.slc 13 (.t 11) none (some (.t 12)) none 1) none <| .op (.len 14 (.t 13) false) none <| .op (.mv 15 (.c ⟨.int .i64, ((0 : Int) : Int)⟩)) none <| .nil)) <|
  (.block 0 (.pre [.keep [0, 1, 3, 13, 14, 15]] (.loop n [0, 1, 3, 13, 14, 15] Y2)))) [.keep [0, 1, 3]]) X1)))
noncomputable abbrev c (n : Nat) : XC := d n (c1 n) (cb2 n)
noncomputable def f (n : Nat) (a0 : Int) (a1 : List Int) : Option ((List Int) × (Int × Bool × Unit)) :=
  bif (decide ((a1.length : Int) < a0)) then (some (a1, (0 : Int), false, ()))
  else (sliceK 0 a0 a1.length (l2 n n a0 a1 (0 : Int) (cut a1 0 a0) ((cut a1 0 a0).length : Int) (0 : Int)))
theorem w (n : Nat) (a0 : Int) (a1 : List Int) (X1 Y2 : XC) : evFn (d n X1 Y2) rs ps r (a0, a1, ()) =
  (bif (decide ((a1.length : Int) < a0)) then (some (a1, (0 : Int), false, ()))
  else (sliceK 0 a0 a1.length (loopEv [0, 1, 3, 13, 14, 15] (fun s K => ev Y2 s (E [(0, (H1 n X1))]) K) n (Z1 a0 a1 (0 : Int) ((cut a1 0 a0) : List Int) ((cut a1 0 a0).length : Int) (0 : Int)))) : Option R) := by kernel_rfl
theorem ok (n : Nat) (a0 : Int) (a1 : List Int) : evFn (c n) rs ps r (a0, a1, ()) = f n a0 a1 := (w n a0 a1 (c1 n) (cb2 n)).trans (by simp -implicitDefEqProofs only [f, l2_ok n] <;> kernel_rfl)
noncomputable def sp (n : Nat) : FSpec := { f := 44, ps := ps, r := r, run := fun x => f n x.1 x.2.1 }
theorem calls (n : Nat) : (c n).calls = [] := by kernel_rfl
theorem fits (n : Nat) : fnB tab hd Try.f44 (c n) rs (sp n).ps (sp n).r = true := by kernel_rfl
theorem sound (n : Nat) : Sound Try.prog (sp n) := by
  refine fnB_sound tabOk eqFacts mixed (fn := Try.f44) (c := c n) (rs := rs) (by kernel_rfl) ?_ (fits n) ?_
  · rw [calls]
    intro s hs; cases hs
  · rintro ⟨a0, a1, ⟨⟩⟩ y h
    exact (ok n a0 a1).trans h
theorem meets (n : Nat) : Meets Try.prog (sp n) := (sound n).meets
end rpc_LoadCallee_1
/-! backwater/rpc.LoadCallee -/
namespace rpc_LoadCallee
abbrev ps : List (Ty × Bool) := [(.slB .U false (.int .u8), false)]
abbrev r : Ty := .tup (.pair (.opt TCallee) (.pair (.int .i64) .unit))
abbrev rs : List RV := [.t 2, .t 3]
abbrev R : Type := (rtOf ps r).den
abbrev Q : Type := St → Option R
abbrev E (l : List (Nat × Q)) : Ks R := ⟨retK rs ps r, l⟩
abbrev Z0 (x1 : Ty.den (.box (.slB .U false (.int .u8)))) (x4 : Ty.den (.box TCallee)) : St := [(1, some ⟨.box (.slB .U false (.int .u8)), x1⟩), (4, some ⟨.box TCallee, x4⟩)]
abbrev Z1 (x1 : Ty.den (.box (.slB .U false (.int .u8)))) (x4 : Ty.den (.box TCallee)) (x5 : Ty.den (.fnp 44 [1])) (x17 : Ty.den (.int .i64)) : St := [(1, some ⟨.box (.slB .U false (.int .u8)), x1⟩), (4, some ⟨.box TCallee, x4⟩), (5, some ⟨.fnp 44 [1], x5⟩), (17, some ⟨.int .i64, x17⟩)]
noncomputable def d1 (n : Nat) : XC :=
  (.seq (.seq (.reg (.op (.ld 108 1 1 false) none <| .op (.len 109 (.t 108) false) none <| .op (.bin 110 .gtr (.t 109) (.c ⟨.int .i64, ((0 : Int) : Int)⟩)) none <| .nil)) <|
  (.cond (.t 110)
  (.seq (.reg (.op (.mv 2 (.c ⟨.nil 1, ()⟩)) none <| .op (.mv 3 (.c ⟨.int .i64, ((3 : Int) : Int)⟩)) none <| .nil)) <|
  .ret)
  .skip)) <|
  (.seq (.reg (.op (.take 111 4) none <| .op (.take 2 111) none <| .op (.mv 3 (.c ⟨.int .i64, ((0 : Int) : Int)⟩)) none <| .nil)) <|
  .ret))
noncomputable abbrev c1 (n : Nat) : XC := d1 n
noncomputable def j1 (n : Nat) (x1 : List Int) (x4 : DCallee) : Option ((Option DCallee) × Int × Unit) :=
  bif (decide ((0 : Int) < (x1.length : Int))) then (some (none, (3 : Int), ()))
  else (some ((some (x4.1, x4.2)), (0 : Int), ()))
theorem s1 (n : Nat) (x1 : List Int) (x4 : DCallee) : ev (c1 n) (Z0 x1 x4) (E []) (retK rs ps r) = j1 n x1 x4 := by kernel_rfl
noncomputable def H1 (n : Nat) (X : XC) : Q := fun st => ghK [.keep [1, 4]] st fun st => ev X st (E []) (retK rs ps r)
noncomputable abbrev K1 (n : Nat) : Q := H1 n (c1 n)
noncomputable def Kb2 (Kr2 : Q) : Q := fun st => ghK [.keep [1, 4, 5, 17]] st Kr2
noncomputable def d3 (n : Nat) : XC :=
  (.aft (.reg (.op (.bin 107 .add (.t 17) (.c ⟨.int .i64, ((1 : Int) : Int)⟩)) none <| .op (.mv 17 (.t 107)) none <| .nil)) [.keep [1, 4, 5, 17]])
noncomputable abbrev c3 (n : Nat) : XC := d3 n
theorem qb2_0 (Kr2 : Q) (kr2 : (List Int) → DCallee → Unit → Int → Option ((Option DCallee) × Int × Unit)) (hK2 : ∀ (x1 : List Int) (x4 : DCallee) (x5 : Unit) (x17 : Int), Kr2 (Z1 x1 x4 x5 x17) = kr2 x1 x4 x5 x17) (x1 : List Int) (x4 : DCallee) (x5 : Unit) (x17 : Int) : Kb2 Kr2 (Z1 x1 x4 x5 x17) = kr2 x1 (x4.1, x4.2) x5 x17 := (by kernel_rfl : _ = Kr2 (Z1 x1 ((x4.1, x4.2) : DCallee) x5 x17)).trans (hK2 x1 (x4.1, x4.2) x5 x17)
noncomputable def j3 (n : Nat) (kr2 : (List Int) → DCallee → Unit → Int → Option ((Option DCallee) × Int × Unit)) (x1 : List Int) (x4 : DCallee) (x5 : Unit) (x17 : Int) : Option ((Option DCallee) × Int × Unit) :=
  kr2 x1 (x4.1, x4.2) x5 (IntKind.i64.wrap (x17 + (1 : Int)))
theorem w3 (n : Nat) (Kr2 : Q) (x1 : List Int) (x4 : DCallee) (x5 : Unit) (x17 : Int) (K1 : Q) (Kb2 : Q) : ev (d3 n) (Z1 x1 x4 x5 x17) (E [(0, K1)]) Kb2 =
  (Kb2 (Z1 x1 x4 x5 (IntKind.i64.wrap (x17 + (1 : Int)))) : Option R) := by kernel_rfl
theorem s3 (n : Nat) (Kr2 : Q) (kr2 : (List Int) → DCallee → Unit → Int → Option ((Option DCallee) × Int × Unit)) (hK2 : ∀ (x1 : List Int) (x4 : DCallee) (x5 : Unit) (x17 : Int), Kr2 (Z1 x1 x4 x5 x17) = kr2 x1 x4 x5 x17) (x1 : List Int) (x4 : DCallee) (x5 : Unit) (x17 : Int) : ev (c3 n) (Z1 x1 x4 x5 x17) (E [(0, (K1 n))]) (Kb2 Kr2) = j3 n kr2 x1 x4 x5 x17 := (w3 n Kr2 x1 x4 x5 x17 (K1 n) (Kb2 Kr2)).trans (by simp -implicitDefEqProofs only [j3, qb2_0 Kr2 kr2 hK2] <;> kernel_rfl)
noncomputable def H3 (n : Nat) (K1 : Q) (Kb2 : Q) (X : XC) : Q := fun st => ghK [.keep [1, 4, 5, 17]] st fun st => ev X st (E [(0, K1)]) Kb2
noncomputable abbrev K3 (n : Nat) (Kr2 : Q) : Q := H3 n (K1 n) (Kb2 Kr2) (c3 n)
noncomputable def db2 (n : Nat) (X3 : XC) : XC :=
  (.aft (.seq (.reg (.op (.bin 18 .lss (.t 17) (.c ⟨.int .i64, ((3 : Int) : Int)⟩)) none <| .nil)) <|
  (.seq (.cond (.t 18)
  .skip
  (.pre [.keep [1, 4]] (.exit 0))) <|
  (.seq (.aft (.block 1 (.seq (.reg (.op (.mv 19 (.t 17)) none <| .op (.mv 6 (.t 19)) none <| .nil)) <|
  (.seq (.reg (.op (.bor 20 4) none <| .op (.mv 21 (.t 6)) none <| .op (.nilchk 22 (.t 20)) none <| .op (.fa 23 22 0 0) none <| .op (.idxA 24 (.t 23) (.t 21) 4 3) none <| .op (.bor 7 24) none <| .nil)) <|
  (.seq (.reg (.op (.bor 26 5) none <| .op (.callF (some 27) (rpc_LoadCallee_1.sp n) 26 112 [.v (.c ⟨.int .i64, ((1 : Int) : Int)⟩)]) none <| .op (.take 25 27) none <| .op (.ext 28 25 0) none <| .op (.ext 29 25 1) none <| .op (.mv 8 (.t 28)) none <| .op (.mv 9 (.t 29)) none <| .nil)) <|
  (.seq (.seq (.pre [.keep [1, 4, 5, 7, 8, 9, 17]] (.reg (.op (.mv 30 (.t 9)) none <| .op (.un 31 .not (.t 30)) none <| .op (.mv 32 (.t 31)) none <| .grp 32 false (.op (.mv 33 (.t 8)) (some ([8, 32, 33], [33])) <| .op (.bin 34 .gtr (.t 33) (.c ⟨.int .u32, ((2 : Int) : Int)⟩)) (some ([32, 33, 34], [34])) <| .nil) 34 35 [33, 34] <| .nil))) <|
  (.cond (.t 35)
  (.seq (.pre [.keep []] (.reg (.op (.mv 2 (.c ⟨.nil 1, ()⟩)) none <| .op (.mv 3 (.c ⟨.int .i64, ((3 : Int) : Int)⟩)) none <| .nil))) <|
  .ret)
  .skip)) <|
  (.seq (.seq (.reg (.op (.bor 36 7) none <| .op (.mv 37 (.t 8)) none <| .op (.cvt 38 (.int .u8) (.t 37)) none <| .op (.nilchk 39 (.t 36)) none <| .op (.fa 40 39 0 0) none <| .op (.st 40 (.t 38) 1) none <| .nil)) <|
  (.seq (.pre [.keep [1, 4, 5, 7, 17]] (.reg (.op (.bor 41 7) none <| .op (.nilchk 42 (.t 41)) none <| .op (.fa 43 42 0 0) none <| .op (.ld 44 43 1 false) none <| .op (.bin 45 .eql (.t 44) (.c ⟨.int .u8, ((0 : Int) : Int)⟩)) none <| .nil))) <|
  (.cond (.t 45)
  (.pre [.keep [1, 4, 5, 17]] (.exit 1))
  .skip))) <|
  (.seq (.reg (.op (.bor 47 5) none <| .op (.callF (some 48) (rpc_LoadCallee_1.sp n) 47 112 [.v (.c ⟨.int .i64, ((4 : Int) : Int)⟩)]) none <| .op (.take 46 48) none <| .op (.ext 49 46 0) none <| .op (.ext 50 46 1) none <| .op (.mv 10 (.t 49)) none <| .op (.mv 9 (.t 50)) none <| .nil)) <|
  (.seq (.reg (.op (.bor 52 5) none <| .op (.callF (some 53) (rpc_LoadCallee_1.sp n) 52 112 [.v (.c ⟨.int .i64, ((4 : Int) : Int)⟩)]) none <| .op (.take 51 53) none <| .op (.ext 54 51 0) none <| .op (.ext 55 51 1) none <| .op (.mv 11 (.t 54)) none <| .op (.mv 12 (.t 55)) none <| .nil)) <|
  (.seq (.seq (.pre [.keep [1, 4, 5, 7, 9, 10, 11, 12, 17]] (.reg (.op (.mv 56 (.t 9)) none <| .op (.un 57 .not (.t 56)) none <| .op (.mv 58 (.t 57)) none <| .grp 58 false (.op (.mv 59 (.t 12)) (some ([12, 58, 59], [59])) <| .op (.un 60 .not (.t 59)) (some ([58, 59, 60], [60])) <| .nil) 60 61 [59, 60] <| .op (.mv 62 (.t 61)) none <| .grp 62 false (.op (.mv 63 (.t 11)) (some ([11, 62, 63], [63])) <| .op (.bin 64 .eql (.t 63) (.c ⟨.int .u32, ((0 : Int) : Int)⟩)) (some ([62, 63, 64], [64])) <| .nil) 64 65 [63, 64] <| .nil))) <|
  (.cond (.t 65)
  (.seq (.pre [.keep []] (.reg (.op (.mv 2 (.c ⟨.nil 1, ()⟩)) none <| .op (.mv 3 (.c ⟨.int .i64, ((3 : Int) : Int)⟩)) none <| .nil))) <|
  .ret)
  .skip)) <|
  (.seq (.reg (.op (.bor 66 7) none <| .op (.bor 67 7) none <| .op (.mv 68 (.t 10)) none <| .op (.mv 69 (.t 11)) none <| .op (.nilchk 70 (.t 66)) none <| .op (.fa 71 70 1 1) none <| .op (.st 71 (.t 68) 1) none <| .op (.nilchk 72 (.t 67)) none <| .op (.fa 73 72 2 2) none <| .op (.st 73 (.t 69) 1) none <| .nil)) <|
  (.seq (.pre [.keep [1, 4, 5, 7, 17]] (.reg (.op (.bor 74 7) none <| .op (.nilchk 75 (.t 74)) none <| .op (.fa 76 75 0 0) none <| .op (.ld 77 76 1 false) none <| .op (.bin 78 .eql (.t 77) (.c ⟨.int .u8, ((2 : Int) : Int)⟩)) none <| .nil))) <|
  (.cond (.t 78)
  (.seq (.reg (.op (.bor 80 5) none <| .op (.callF (some 81) (rpc_LoadCallee_1.sp n) 80 112 [.v (.c ⟨.int .i64, ((2 : Int) : Int)⟩)]) none <| .op (.take 79 81) none <| .op (.ext 82 79 0) none <| .op (.ext 83 79 1) none <| .op (.mv 13 (.t 82)) none <| .op (.mv 14 (.t 83)) none <| .nil)) <|
  (.seq (.seq (.reg (.op (.mv 84 (.t 14)) none <| .op (.un 85 .not (.t 84)) none <| .op (.mv 86 (.t 85)) none <| .grp 86 false (.op (.mv 87 (.t 13)) (some ([13, 86, 87], [87])) <| .op (.bin 88 .gtr (.t 87) (.c ⟨.int .u32, ((16384 : Int) : Int)⟩)) (some ([86, 87, 88], [88])) <| .nil) 88 89 [87, 88] <| .op (.mv 90 (.t 89)) none <| .grp 90 false (.op (.mv 91 (.t 13)) (some ([13, 90, 91], [91])) <| .op (.cvt 92 (.int .i64) (.t 91)) (some ([90, 91, 92], [92])) <| .op (.ld 93 1 1 false) (some ([1, 90, 93], [93])) <| .op (.len 94 (.t 93) false) (some ([90, 93, 94], [94])) <| .op (.bin 95 .gtr (.t 92) (.t 94)) (some ([90, 92, 94, 95], [95])) <| .nil) 95 96 [91, 92, 93, 94, 95] <| .nil)) <|
  (.cond (.t 96)
  (.seq (.pre [.keep []] (.reg (.op (.mv 2 (.c ⟨.nil 1, ()⟩)) none <| .op (.mv 3 (.c ⟨.int .i64, ((3 : Int) : Int)⟩)) none <| .nil))) <|
  .ret)
  .skip)) <|
  (.pre [.keep [1, 4, 5, 7, 13, 17]] (.regD (.op (.bor 97 7) (some ([4, 7, 97], [97])) <| .op (.ld 98 1 1 false) (some ([1, 98], [98])) <| .op (.mv 99 (.t 13)) (some ([13, 99], [99])) <| .op (.slc 100 (.t 98) none (some (.t 99)) none 1) (some ([98, 99, 100], [100])) <| .op (.cvt 101 .b2s (.t 100)) (some ([100, 101], [101])) <| .op (.ld 102 1 1 false) (some ([1, 102], [102])) <| .op (.mv 103 (.t 13)) (some ([13, 103], [103])) <| .op (.slc 104 (.t 102) (some (.t 103)) none none 1) (some ([102, 103, 104], [104])) <| .op (.nilchk 105 (.t 97)) (some ([4, 97, 105], [105])) <| .op (.fa 106 105 3 3) (some ([4, 105, 106], [106])) <| .op (.stS 106 (.t 101) 1) (some ([4, 101, 106], [4])) <| .op (.stS 1 (.t 104) 1) (some ([1, 104], [1])) <| .nil)))))
  .skip)))))))))))) [.keep [1, 4, 5, 17]]) X3))) [.keep [1, 4, 5, 17]])
noncomputable abbrev cb2 (n : Nat) : XC := db2 n (c3 n)
theorem q1_0_r (n : Nat) (X : XC) (x1 : List Int) (x4 : DCallee) : H1 n X (Z0 x1 x4) = (ev X (Z0 x1 ((x4.1, x4.2) : DCallee)) (E []) (retK rs ps r) : Option R) := by kernel_rfl
theorem q1_0 (n : Nat) (x1 : List Int) (x4 : DCallee) : K1 n (Z0 x1 x4) = j1 n x1 (x4.1, x4.2) := (q1_0_r n (c1 n) x1 x4).trans (s1 n x1 (x4.1, x4.2))
noncomputable def l2 (n : Nat) : Nat → (List Int) → DCallee → Unit → Int → Option ((Option DCallee) × Int × Unit)
  | 0, _, _, _, _ => none
  | k + 1, x1, x4, x5, x17 =>
  bif (decide (x17 < (3 : Int))) then (inK' x17 3 ((rpc_LoadCallee_1.f n (1 : Int) x1).bind fun r1 => (bif (!r1.2.2.1) then some true else (some (decide ((2 : Int) < r1.2.1)))).bind fun g2 =>
  bif g2 then (some (none, (3 : Int), ()))
  else ((lnth x4.1 x17).bind fun e3 => (lnth (lset x4.1 x17 ((IntKind.u8.wrap r1.2.1), e3.2)) x17).bind fun e4 => bif (decide (e4.1 = (0 : Int))) then (j3 n (l2 n k) r1.1 ((lset x4.1 x17 ((IntKind.u8.wrap r1.2.1), e3.2)), x4.2) x5 x17)
  else ((rpc_LoadCallee_1.f n (4 : Int) r1.1).bind fun r5 => (rpc_LoadCallee_1.f n (4 : Int) r5.1).bind fun r6 => (bif (!r5.2.2.1) then some true else (some (!r6.2.2.1))).bind fun g7 =>
  (bif g7 then some true else (some (decide (r6.2.1 = (0 : Int))))).bind fun g8 =>
  bif g8 then (some (none, (3 : Int), ()))
  else ((lnth (lset x4.1 x17 ((IntKind.u8.wrap r1.2.1), e3.2)) x17).bind fun e9 => (lnth (lset (lset x4.1 x17 ((IntKind.u8.wrap r1.2.1), e3.2)) x17 (e9.1, r5.2.1, e9.2.2)) x17).bind fun e10 => (lnth (lset (lset (lset x4.1 x17 ((IntKind.u8.wrap r1.2.1), e3.2)) x17 (e9.1, r5.2.1, e9.2.2)) x17 (e10.1, e10.2.1, r6.2.1, e10.2.2.2)) x17).bind fun e11 => bif (decide (e11.1 = (2 : Int))) then ((rpc_LoadCallee_1.f n (2 : Int) r6.1).bind fun r12 => (bif (!r12.2.2.1) then some true else (some (decide ((16384 : Int) < r12.2.1)))).bind fun g13 =>
  (bif g13 then some true else (some (decide ((r12.1.length : Int) < (IntKind.i64.wrap r12.2.1))))).bind fun g14 =>
  bif g14 then (some (none, (3 : Int), ()))
  else (sliceK 0 r12.2.1 r12.1.length (sliceK r12.2.1 (r12.1.length : Int) r12.1.length ((lnth (lset (lset (lset x4.1 x17 ((IntKind.u8.wrap r1.2.1), e3.2)) x17 (e9.1, r5.2.1, e9.2.2)) x17 (e10.1, e10.2.1, r6.2.1, e10.2.2.2)) x17).bind fun e15 => j3 n (l2 n k) (cut r12.1 r12.2.1 (r12.1.length : Int)) ((lset (lset (lset (lset x4.1 x17 ((IntKind.u8.wrap r1.2.1), e3.2)) x17 (e9.1, r5.2.1, e9.2.2)) x17 (e10.1, e10.2.1, r6.2.1, e10.2.2.2)) x17 (e15.1, e15.2.1, e15.2.2.1, (cut r12.1 0 r12.2.1), e15.2.2.2.2)), x4.2) x5 x17))))
  else (j3 n (l2 n k) r6.1 ((lset (lset (lset x4.1 x17 ((IntKind.u8.wrap r1.2.1), e3.2)) x17 (e9.1, r5.2.1, e9.2.2)) x17 (e10.1, e10.2.1, r6.2.1, e10.2.2.2)), x4.2) x5 x17))))))
  else (j1 n x1 (x4.1, x4.2))
theorem wb2 (n : Nat) (Kr2 : Q) (x1 : List Int) (x4 : DCallee) (x5 : Unit) (x17 : Int) (K1 : Q) (X3 : XC) : ev (db2 n X3) (keepSt (Z1 x1 x4 x5 x17) [1, 4, 5, 17]) (E [(0, K1)]) Kr2 =
  (bif (decide (x17 < (3 : Int))) then (inK' x17 3 ((rpc_LoadCallee_1.f n (1 : Int) x1).bind fun r1 => (bif (!r1.2.2.1) then some true else (some (decide ((2 : Int) < r1.2.1)))).bind fun g2 =>
  bif g2 then (some (none, (3 : Int), ()))
  else ((lnth x4.1 x17).bind fun e3 => (lnth (lset x4.1 x17 ((IntKind.u8.wrap r1.2.1), e3.2)) x17).bind fun e4 => bif (decide (e4.1 = (0 : Int))) then (ev X3 (Z1 r1.1 (((lset x4.1 x17 ((IntKind.u8.wrap r1.2.1), e3.2)), x4.2) : DCallee) x5 x17) (E [(0, K1)]) (Kb2 Kr2))
  else ((rpc_LoadCallee_1.f n (4 : Int) r1.1).bind fun r5 => (rpc_LoadCallee_1.f n (4 : Int) r5.1).bind fun r6 => (bif (!r5.2.2.1) then some true else (some (!r6.2.2.1))).bind fun g7 =>
  (bif g7 then some true else (some (decide (r6.2.1 = (0 : Int))))).bind fun g8 =>
  bif g8 then (some (none, (3 : Int), ()))
  else ((lnth (lset x4.1 x17 ((IntKind.u8.wrap r1.2.1), e3.2)) x17).bind fun e9 => (lnth (lset (lset x4.1 x17 ((IntKind.u8.wrap r1.2.1), e3.2)) x17 (e9.1, r5.2.1, e9.2.2)) x17).bind fun e10 => (lnth (lset (lset (lset x4.1 x17 ((IntKind.u8.wrap r1.2.1), e3.2)) x17 (e9.1, r5.2.1, e9.2.2)) x17 (e10.1, e10.2.1, r6.2.1, e10.2.2.2)) x17).bind fun e11 => bif (decide (e11.1 = (2 : Int))) then ((rpc_LoadCallee_1.f n (2 : Int) r6.1).bind fun r12 => (bif (!r12.2.2.1) then some true else (some (decide ((16384 : Int) < r12.2.1)))).bind fun g13 =>
  (bif g13 then some true else (some (decide ((r12.1.length : Int) < (IntKind.i64.wrap r12.2.1))))).bind fun g14 =>
  bif g14 then (some (none, (3 : Int), ()))
  else (sliceK 0 r12.2.1 r12.1.length (sliceK r12.2.1 (r12.1.length : Int) r12.1.length ((lnth (lset (lset (lset x4.1 x17 ((IntKind.u8.wrap r1.2.1), e3.2)) x17 (e9.1, r5.2.1, e9.2.2)) x17 (e10.1, e10.2.1, r6.2.1, e10.2.2.2)) x17).bind fun e15 => ev X3 (Z1 ((cut r12.1 r12.2.1 (r12.1.length : Int)) : List Int) (((lset (lset (lset (lset x4.1 x17 ((IntKind.u8.wrap r1.2.1), e3.2)) x17 (e9.1, r5.2.1, e9.2.2)) x17 (e10.1, e10.2.1, r6.2.1, e10.2.2.2)) x17 (e15.1, e15.2.1, e15.2.2.1, (cut r12.1 0 r12.2.1), e15.2.2.2.2)), x4.2) : DCallee) x5 x17) (E [(0, K1)]) (Kb2 Kr2)))))
  else (ev X3 (Z1 r6.1 (((lset (lset (lset x4.1 x17 ((IntKind.u8.wrap r1.2.1), e3.2)) x17 (e9.1, r5.2.1, e9.2.2)) x17 (e10.1, e10.2.1, r6.2.1, e10.2.2.2)), x4.2) : DCallee) x5 x17) (E [(0, K1)]) (Kb2 Kr2)))))))
  else (K1 (Z0 x1 x4)) : Option R) := by kernel_rfl
theorem l2_ok (n : Nat) (k : Nat) : ∀ (x1 : List Int) (x4 : DCallee) (x5 : Unit) (x17 : Int), loopEv [1, 4, 5, 17] (fun s K => ev (cb2 n) s (E [(0, (K1 n))]) K) k (Z1 x1 x4 x5 x17) = l2 n k x1 x4 x5 x17 := by
  induction k with
  | zero => intros; rfl
  | succ k ih =>
    intro x1 x4 x5 x17
    exact (wb2 n (fun st => loopEv [1, 4, 5, 17] (fun s K => ev (cb2 n) s (E [(0, (K1 n))]) K) k st) x1 x4 x5 x17 (K1 n) (c3 n)).trans (by simp -implicitDefEqProofs only [l2, s3 n (fun st => loopEv [1, 4, 5, 17] (fun s K => ev (cb2 n) s (E [(0, (K1 n))]) K) k st) (l2 n k) ih, q1_0 n] <;> kernel_rfl)
noncomputable def d (n : Nat) (X1 Y2 : XC) : XC :=
  (.seq (.reg (.op (.boxv 1 (.t 0)) none <| .op (.mv 2 (.c ⟨.nil 1, ()⟩)) none <| .op (.mv 3 (.c ⟨.int .i64, ((0 : Int) : Int)⟩)) none <| .nil)) <|
  (.seq (.reg (.op (.call (some 15) (rpc_NewCallee.sp n) []) none <| .op (.take 4 15) none <| .nil)) <|
  (.seq (.reg (.op (.mkfp 16 44 1) none <| .op (.bor 5 16) none <| .nil)) <|
  (.seq (.aft (.seq (.reg (.op (.mv 17 (.c ⟨.int .i64, ((0 : Int) : Int)⟩)) none <| .nil)) <|
  (.block 0 (.pre [.keep [1, 4, 5, 17]] (.loop n [1, 4, 5, 17] Y2)))) [.keep [1, 4]]) X1))))
noncomputable abbrev c (n : Nat) : XC := d n (c1 n) (cb2 n)
noncomputable def f (n : Nat) (a0 : List Int) : Option ((Option DCallee) × Int × Unit) :=
  (rpc_NewCallee.f n).bind fun r1 => l2 n n a0 (r1.1, r1.2) () (0 : Int)
theorem w (n : Nat) (a0 : List Int) (X1 Y2 : XC) : evFn (d n X1 Y2) rs ps r (a0, ()) =
  ((rpc_NewCallee.f n).bind fun r1 => loopEv [1, 4, 5, 17] (fun s K => ev Y2 s (E [(0, (H1 n X1))]) K) n (Z1 a0 ((r1.1, r1.2) : DCallee) (() : Unit) (0 : Int)) : Option R) := by kernel_rfl
theorem ok (n : Nat) (a0 : List Int) : evFn (c n) rs ps r (a0, ()) = f n a0 := (w n a0 (c1 n) (cb2 n)).trans (by simp -implicitDefEqProofs only [f, l2_ok n] <;> kernel_rfl)
noncomputable def sp (n : Nat) : FSpec := { f := 29, ps := ps, r := r, run := fun x => f n x.1 }
theorem calls (n : Nat) : (c n).calls = [rpc_NewCallee.sp n, rpc_LoadCallee_1.sp n, rpc_LoadCallee_1.sp n, rpc_LoadCallee_1.sp n, rpc_LoadCallee_1.sp n] := by kernel_rfl
theorem fits (n : Nat) : fnB tab hd Try.f29 (c n) rs (sp n).ps (sp n).r = true := by kernel_rfl
theorem sound (n : Nat) : Sound Try.prog (sp n) := by
  refine fnB_sound tabOk eqFacts mixed (fn := Try.f29) (c := c n) (rs := rs) (by kernel_rfl) ?_ (fits n) ?_
  · rw [calls]
    intro s hs
    simp only [List.mem_cons, List.not_mem_nil, or_false] at hs
    rcases hs with rfl | rfl | rfl | rfl | rfl
    · exact rpc_NewCallee.meets n
    · exact rpc_LoadCallee_1.meets n
    · exact rpc_LoadCallee_1.meets n
    · exact rpc_LoadCallee_1.meets n
    · exact rpc_LoadCallee_1.meets n
  · rintro ⟨a0, ⟨⟩⟩ y h
    exact (ok n a0).trans h
theorem meets (n : Nat) : Meets Try.prog (sp n) := (sound n).meets
end rpc_LoadCallee
/-! backwater/backwaterref11.NewCallee -/
namespace r11_NewCallee
abbrev ps : List (Ty × Bool) := []
abbrev r : Ty := .box TCallee'
abbrev rs : List RV := [.t 0]
abbrev R : Type := (rtOf ps r).den
abbrev Q : Type := St → Option R
abbrev E (l : List (Nat × Q)) : Ks R := ⟨retK rs ps r, l⟩
noncomputable def d (n : Nat) : XC :=
  (.seq (.reg (.op (.mv 0 (.c ⟨.nil 1, ()⟩)) none <| .nil)) <|
  (.seq (.reg (.op (.build 1 ⟨TCallee', (((List.replicate 4 ((0 : Int), (0 : Int), (0 : Int), ([] : List Int), ())), ()) : DCallee')⟩ []) none <| .op (.boxv 2 (.t 1)) none <| .op (.take 0 2) none <| .nil)) <|
  .ret))
noncomputable abbrev c (n : Nat) : XC := d n
noncomputable def f (n : Nat)  : Option DCallee' :=
  some ((List.replicate 4 ((0 : Int), (0 : Int), (0 : Int), ([] : List Int), ())), ())
theorem ok (n : Nat)  : evFn (c n) rs ps r () = f n  := by kernel_rfl
noncomputable def sp (n : Nat) : FSpec := { f := 26, ps := ps, r := r, run := fun x => f n  }
theorem calls (n : Nat) : (c n).calls = [] := by kernel_rfl
theorem fits (n : Nat) : fnB tab hd Try.f26 (c n) rs (sp n).ps (sp n).r = true := by kernel_rfl
theorem sound (n : Nat) : Sound Try.prog (sp n) := by
  refine fnB_sound tabOk eqFacts mixed (fn := Try.f26) (c := c n) (rs := rs) (by kernel_rfl) ?_ (fits n) ?_
  · rw [calls]
    intro s hs; cases hs
  · rintro ⟨⟩ y h
    exact (ok n ).trans h
theorem meets (n : Nat) : Meets Try.prog (sp n) := (sound n).meets
end r11_NewCallee
/-! (*backwater/backwaterref07.Reader).Number -/
namespace r07_Reader_Number
abbrev ps : List (Ty × Bool) := [(.box TReader, true), (.int .i64, false)]
abbrev r : Ty := .int .u64
abbrev rs : List RV := [.t 4]
abbrev R : Type := (rtOf ps r).den
abbrev Q : Type := St → Option R
abbrev E (l : List (Nat × Q)) : Ks R := ⟨retK rs ps r, l⟩
abbrev Z0 (x0 : Ty.den (.box TReader)) (x1 : Ty.den (.int .i64)) (x5 : Ty.den (.int .u64)) : St := [(0, some ⟨.box TReader, x0⟩), (1, some ⟨.int .i64, x1⟩), (5, some ⟨.int .u64, x5⟩)]
abbrev Z1 (x0 : Ty.den (.box TReader)) (x1 : Ty.den (.int .i64)) (x5 : Ty.den (.int .u64)) (x6 : Ty.den (.int .i64)) : St := [(0, some ⟨.box TReader, x0⟩), (1, some ⟨.int .i64, x1⟩), (5, some ⟨.int .u64, x5⟩), (6, some ⟨.int .i64, x6⟩)]
noncomputable def d1 (n : Nat) : XC :=
  (.seq (.reg (.op (.bor 39 0) none <| .op (.bor 40 0) none <| .op (.nilchk 41 (.t 40)) none <| .op (.fa 42 41 0 0) none <| .op (.ld 43 42 1 false) none <| .op (.mv 44 (.t 1)) none <| .op (.slc 45 (.t 43) (some (.t 44)) none none 1) none <| .op (.nilchk 46 (.t 39)) none <| .op (.fa 47 46 0 0) none <| .op (.st 47 (.t 45) 1) none <| .nil)) <|
  (.seq (.reg (.op (.mv 48 (.t 5)) none <| .op (.mv 4 (.t 48)) none <| .nil)) <|
  .ret))
noncomputable abbrev c1 (n : Nat) : XC := d1 n
noncomputable def j1 (n : Nat) (x0 : DReader) (x1 : Int) (x5 : Int) : Option (DReader × Int) :=
  sliceK x1 (x0.1.length : Int) x0.1.length (some (((cut x0.1 x1 (x0.1.length : Int)), x0.2.1, x0.2.2), x5))
theorem s1 (n : Nat) (x0 : DReader) (x1 : Int) (x5 : Int) : ev (c1 n) (Z0 x0 x1 x5) (E []) (retK rs ps r) = j1 n x0 x1 x5 := by kernel_rfl
noncomputable def H1 (n : Nat) (X : XC) : Q := fun st => ghK [.keep [0, 1, 5]] st fun st => ev X st (E []) (retK rs ps r)
noncomputable abbrev K1 (n : Nat) : Q := H1 n (c1 n)
noncomputable def Kb2 (Kr2 : Q) : Q := fun st => ghK [.keep [0, 1, 5, 6]] st Kr2
noncomputable def d3 (n : Nat) : XC :=
  (.aft (.reg (.op (.mv 26 (.t 6)) none <| .op (.bin 27 .add (.t 26) (.c ⟨.int .i64, ((1 : Int) : Int)⟩)) none <| .op (.mv 6 (.t 27)) none <| .nil)) [.keep [0, 1, 5, 6]])
noncomputable abbrev c3 (n : Nat) : XC := d3 n
theorem qb2_0 (Kr2 : Q) (kr2 : DReader → Int → Int → Int → Option (DReader × Int)) (hK2 : ∀ (x0 : DReader) (x1 : Int) (x5 : Int) (x6 : Int), Kr2 (Z1 x0 x1 x5 x6) = kr2 x0 x1 x5 x6) (x0 : DReader) (x1 : Int) (x5 : Int) (x6 : Int) : Kb2 Kr2 (Z1 x0 x1 x5 x6) = kr2 (x0.1, x0.2.1, x0.2.2) x1 x5 x6 := (by kernel_rfl : _ = Kr2 (Z1 ((x0.1, x0.2.1, x0.2.2) : DReader) x1 x5 x6)).trans (hK2 (x0.1, x0.2.1, x0.2.2) x1 x5 x6)
noncomputable def j3 (n : Nat) (kr2 : DReader → Int → Int → Int → Option (DReader × Int)) (x0 : DReader) (x1 : Int) (x5 : Int) (x6 : Int) : Option (DReader × Int) :=
  kr2 (x0.1, x0.2.1, x0.2.2) x1 x5 (IntKind.i64.wrap (x6 + (1 : Int)))
theorem w3 (n : Nat) (Kr2 : Q) (x0 : DReader) (x1 : Int) (x5 : Int) (x6 : Int) (K1 : Q) (Kb2 : Q) : ev (d3 n) (Z1 x0 x1 x5 x6) (E [(0, K1)]) Kb2 =
  (Kb2 (Z1 x0 x1 x5 (IntKind.i64.wrap (x6 + (1 : Int)))) : Option R) := by kernel_rfl
theorem s3 (n : Nat) (Kr2 : Q) (kr2 : DReader → Int → Int → Int → Option (DReader × Int)) (hK2 : ∀ (x0 : DReader) (x1 : Int) (x5 : Int) (x6 : Int), Kr2 (Z1 x0 x1 x5 x6) = kr2 x0 x1 x5 x6) (x0 : DReader) (x1 : Int) (x5 : Int) (x6 : Int) : ev (c3 n) (Z1 x0 x1 x5 x6) (E [(0, (K1 n))]) (Kb2 Kr2) = j3 n kr2 x0 x1 x5 x6 := (w3 n Kr2 x0 x1 x5 x6 (K1 n) (Kb2 Kr2)).trans (by simp -implicitDefEqProofs only [j3, qb2_0 Kr2 kr2 hK2] <;> kernel_rfl)
noncomputable def H3 (n : Nat) (K1 : Q) (Kb2 : Q) (X : XC) : Q := fun st => ghK [.keep [0, 1, 5, 6]] st fun st => ev X st (E [(0, K1)]) Kb2
noncomputable abbrev K3 (n : Nat) (Kr2 : Q) : Q := H3 n (K1 n) (Kb2 Kr2) (c3 n)
noncomputable def db2 (n : Nat) (X3 : XC) : XC :=
  (.aft (.seq (.seq (.reg (.op (.mv 23 (.t 6)) none <| .op (.mv 24 (.t 1)) none <| .op (.bin 25 .lss (.t 23) (.t 24)) none <| .nil)) <|
  (.cond (.t 25)
  .skip
  (.pre [.keep [0, 1, 5]] (.exit 0)))) <|
  (.seq (.aft (.block 1 (.reg (.op (.mv 28 (.t 5)) none <| .op (.bin 29 .mul (.t 28) (.c ⟨.int .u64, ((256 : Int) : Int)⟩)) none <| .op (.bor 30 0) none <| .op (.nilchk 31 (.t 30)) none <| .op (.fa 32 31 0 0) none <| .op (.ld 33 32 1 false) none <| .op (.mv 34 (.t 6)) none <| .op (.idxA 35 (.t 33) (.t 34) 1 0) none <| .op (.ld 36 35 1 false) none <| .op (.cvt 37 (.int .u64) (.t 36)) none <| .op (.bin 38 .add (.t 29) (.t 37)) none <| .op (.mv 5 (.t 38)) none <| .nil))) [.keep [0, 1, 5, 6]]) X3)) [.keep [0, 1, 5, 6]])
noncomputable abbrev cb2 (n : Nat) : XC := db2 n (c3 n)
theorem q1_0_r (n : Nat) (X : XC) (x0 : DReader) (x1 : Int) (x5 : Int) : H1 n X (Z0 x0 x1 x5) = (ev X (Z0 ((x0.1, x0.2.1, x0.2.2) : DReader) x1 x5) (E []) (retK rs ps r) : Option R) := by kernel_rfl
theorem q1_0 (n : Nat) (x0 : DReader) (x1 : Int) (x5 : Int) : K1 n (Z0 x0 x1 x5) = j1 n (x0.1, x0.2.1, x0.2.2) x1 x5 := (q1_0_r n (c1 n) x0 x1 x5).trans (s1 n (x0.1, x0.2.1, x0.2.2) x1 x5)
noncomputable def l2 (n : Nat) : Nat → DReader → Int → Int → Int → Option (DReader × Int)
  | 0, _, _, _, _ => none
  | k + 1, x0, x1, x5, x6 =>
  bif (decide (x6 < x1)) then (idxK x0.1 x6 fun e1 => j3 n (l2 n k) (x0.1, x0.2.1, x0.2.2) x1 (IntKind.u64.wrap ((IntKind.u64.wrap (x5 * (256 : Int))) + (IntKind.u64.wrap e1))) x6)
  else (j1 n (x0.1, x0.2.1, x0.2.2) x1 x5)
theorem wb2 (n : Nat) (Kr2 : Q) (x0 : DReader) (x1 : Int) (x5 : Int) (x6 : Int) (K1 : Q) (X3 : XC) : ev (db2 n X3) (keepSt (Z1 x0 x1 x5 x6) [0, 1, 5, 6]) (E [(0, K1)]) Kr2 =
  (bif (decide (x6 < x1)) then (idxK x0.1 x6 fun e1 => ev X3 (Z1 ((x0.1, x0.2.1, x0.2.2) : DReader) x1 (IntKind.u64.wrap ((IntKind.u64.wrap (x5 * (256 : Int))) + (IntKind.u64.wrap e1))) x6) (E [(0, K1)]) (Kb2 Kr2))
  else (K1 (Z0 x0 x1 x5)) : Option R) := by kernel_rfl
theorem l2_ok (n : Nat) (k : Nat) : ∀ (x0 : DReader) (x1 : Int) (x5 : Int) (x6 : Int), loopEv [0, 1, 5, 6] (fun s K => ev (cb2 n) s (E [(0, (K1 n))]) K) k (Z1 x0 x1 x5 x6) = l2 n k x0 x1 x5 x6 := by
  induction k with
  | zero => intros; rfl
  | succ k ih =>
    intro x0 x1 x5 x6
    exact (wb2 n (fun st => loopEv [0, 1, 5, 6] (fun s K => ev (cb2 n) s (E [(0, (K1 n))]) K) k st) x0 x1 x5 x6 (K1 n) (c3 n)).trans (by simp -implicitDefEqProofs only [l2, s3 n (fun st => loopEv [0, 1, 5, 6] (fun s K => ev (cb2 n) s (E [(0, (K1 n))]) K) k st) (l2 n k) ih, q1_0 n] <;> kernel_rfl)
noncomputable def d (n : Nat) (X1 Y2 : XC) : XC :=
  (.seq (.reg (.op (.mv 4 (.c ⟨.int .u64, ((0 : Int) : Int)⟩)) none <| .nil)) <|
  (.seq (.seq (.reg (.op (.bor 7 0) none <| .op (.nilchk 8 (.t 7)) none <| .op (.fa 9 8 1 1) none <| .op (.ld 10 9 1 false) none <| .op (.mv 11 (.t 10)) none <| .grp 11 false (.op (.bor 12 0) (some ([0, 11, 12], [12])) <| .op (.nilchk 13 (.t 12)) (some ([0, 11, 12, 13], [13])) <| .op (.fa 14 13 0 0) (some ([0, 11, 13, 14], [14])) <| .op (.ld 15 14 1 false) (some ([0, 11, 14, 15], [15])) <| .op (.len 16 (.t 15) false) (some ([11, 15, 16], [16])) <| .op (.mv 17 (.t 1)) (some ([1, 11, 17], [17])) <| .op (.bin 18 .lss (.t 16) (.t 17)) (some ([11, 16, 17, 18], [18])) <| .nil) 18 19 [12, 13, 14, 15, 16, 17, 18] <| .nil)) <|
  (.cond (.t 19)
  (.seq (.reg (.op (.bor 20 0) none <| .op (.nilchk 21 (.t 20)) none <| .op (.fa 22 21 1 1) none <| .op (.st 22 (.c ⟨.bool, (true : Bool)⟩) 1) none <| .nil)) <|
  (.seq (.pre [.keep [0]] (.reg (.op (.mv 4 (.c ⟨.int .u64, ((0 : Int) : Int)⟩)) none <| .nil))) <|
  .ret))
  .skip)) <|
  (.seq (.reg (.op (.mv 5 (.c ⟨.int .u64, ((0 : Int) : Int)⟩)) none <| .nil)) <|
  (.seq (.aft (.seq (.reg (.op (.mv 6 (.c ⟨.int .i64, ((0 : Int) : Int)⟩)) none <| .nil)) <|
  (.block 0 (.pre [.keep [0, 1, 5, 6]] (.loop n [0, 1, 5, 6] Y2)))) [.keep [0, 1, 5]]) X1))))
noncomputable abbrev c (n : Nat) : XC := d n (c1 n) (cb2 n)
noncomputable def f (n : Nat) (a0 : DReader) (a1 : Int) : Option (DReader × Int) :=
  (bif a0.2.1 then some true else (some (decide ((a0.1.length : Int) < a1)))).bind fun g1 =>
  bif g1 then (some ((a0.1, true, a0.2.2), (0 : Int)))
  else (l2 n n (a0.1, a0.2.1, a0.2.2) a1 (0 : Int) (0 : Int))
theorem w (n : Nat) (a0 : DReader) (a1 : Int) (X1 Y2 : XC) : evFn (d n X1 Y2) rs ps r (a0, a1, ()) =
  ((bif a0.2.1 then some true else (some (decide ((a0.1.length : Int) < a1)))).bind fun g1 =>
  bif g1 then (some ((a0.1, true, a0.2.2), (0 : Int)))
  else (loopEv [0, 1, 5, 6] (fun s K => ev Y2 s (E [(0, (H1 n X1))]) K) n (Z1 ((a0.1, a0.2.1, a0.2.2) : DReader) a1 (0 : Int) (0 : Int))) : Option R) := by kernel_rfl
theorem ok (n : Nat) (a0 : DReader) (a1 : Int) : evFn (c n) rs ps r (a0, a1, ()) = f n a0 a1 := (w n a0 a1 (c1 n) (cb2 n)).trans (by simp -implicitDefEqProofs only [f, l2_ok n] <;> kernel_rfl)
noncomputable def sp (n : Nat) : FSpec := { f := 45, ps := ps, r := r, run := fun x => f n x.1 x.2.1 }
theorem calls (n : Nat) : (c n).calls = [] := by kernel_rfl
theorem fits (n : Nat) : fnB tab hd Try.f45 (c n) rs (sp n).ps (sp n).r = true := by kernel_rfl
theorem sound (n : Nat) : Sound Try.prog (sp n) := by
  refine fnB_sound tabOk eqFacts mixed (fn := Try.f45) (c := c n) (rs := rs) (by kernel_rfl) ?_ (fits n) ?_
  · rw [calls]
    intro s hs; cases hs
  · rintro ⟨a0, a1, ⟨⟩⟩ y h
    exact (ok n a0 a1).trans h
theorem meets (n : Nat) : Meets Try.prog (sp n) := (sound n).meets
end r07_Reader_Number
/-! (*backwater/backwaterref07.Reader).Take -/
namespace r07_Reader_Take
abbrev ps : List (Ty × Bool) := [(.box TReader, true), (.int .i64, false)]
abbrev r : Ty := .slX .U (.int .u8)
abbrev rs : List RV := [.t 4]
abbrev R : Type := (rtOf ps r).den
abbrev Q : Type := St → Option R
abbrev E (l : List (Nat × Q)) : Ks R := ⟨retK rs ps r, l⟩
noncomputable def d (n : Nat) : XC :=
  (.seq (.reg (.op (.mv 4 (.c ⟨.nil 0, ()⟩)) none <| .nil)) <|
  (.seq (.seq (.reg (.op (.bor 6 0) none <| .op (.nilchk 7 (.t 6)) none <| .op (.fa 8 7 1 1) none <| .op (.ld 9 8 1 false) none <| .op (.mv 10 (.t 9)) none <| .grp 10 false (.op (.bor 11 0) (some ([0, 10, 11], [11])) <| .op (.nilchk 12 (.t 11)) (some ([0, 10, 11, 12], [12])) <| .op (.fa 13 12 0 0) (some ([0, 10, 12, 13], [13])) <| .op (.ld 14 13 1 false) (some ([0, 10, 13, 14], [14])) <| .op (.len 15 (.t 14) false) (some ([10, 14, 15], [15])) <| .op (.mv 16 (.t 1)) (some ([1, 10, 16], [16])) <| .op (.bin 17 .lss (.t 15) (.t 16)) (some ([10, 15, 16, 17], [17])) <| .nil) 17 18 [11, 12, 13, 14, 15, 16, 17] <| .nil)) <|
  (.cond (.t 18)
  (.seq (.reg (.op (.bor 19 0) none <| .op (.nilchk 20 (.t 19)) none <| .op (.fa 21 20 1 1) none <| .op (.st 21 (.c ⟨.bool, (true : Bool)⟩) 1) none <| .nil)) <|
  (.seq (.pre [.keep [0]] (.reg (.op (.mv 4 (.c ⟨.nil 0, ()⟩)) none <| .nil))) <|
  .ret))
  .skip)) <|
  (.seq (.reg (.op (.bsl 22 (.int .u8) []) none <| .op (.bor 23 0) none <| .op (.nilchk 24 (.t 23)) none <| .op (.fa 25 24 0 0) none <| .op (.ld 26 25 1 false) none <| .op (.mv 27 (.t 1)) none <| .op (.slc 28 (.t 26) none (some (.t 27)) none 1) none <| .op (.app 29 22 (.t 28) 1 1) none <| .op (.take 5 29) none <| .nil)) <|
  (.seq (.pre [.keep [0, 1, 5]] (.reg (.op (.bor 30 0) none <| .op (.bor 31 0) none <| .op (.nilchk 32 (.t 31)) none <| .op (.fa 33 32 0 0) none <| .op (.ld 34 33 1 false) none <| .op (.mv 35 (.t 1)) none <| .op (.slc 36 (.t 34) (some (.t 35)) none none 1) none <| .op (.nilchk 37 (.t 30)) none <| .op (.fa 38 37 0 0) none <| .op (.st 38 (.t 36) 1) none <| .nil))) <|
  (.seq (.reg (.op (.take 39 5) none <| .op (.take 4 39) none <| .nil)) <|
  .ret)))))
noncomputable abbrev c (n : Nat) : XC := d n
noncomputable def f (n : Nat) (a0 : DReader) (a1 : Int) : Option (DReader × (List Int)) :=
  (bif a0.2.1 then some true else (some (decide ((a0.1.length : Int) < a1)))).bind fun g1 =>
  bif g1 then (some ((a0.1, true, a0.2.2), ([] : List Int)))
  else (sliceK 0 a1 a0.1.length (appK ([] : List Int).length (cut a0.1 0 a1).length 1 (sliceK a1 (a0.1.length : Int) a0.1.length (some (((cut a0.1 a1 (a0.1.length : Int)), a0.2.1, a0.2.2), (([] : List Int) ++ (cut a0.1 0 a1)))))))
theorem ok (n : Nat) (a0 : DReader) (a1 : Int) : evFn (c n) rs ps r (a0, a1, ()) = f n a0 a1 := by kernel_rfl
noncomputable def sp (n : Nat) : FSpec := { f := 46, ps := ps, r := r, run := fun x => f n x.1 x.2.1 }
theorem calls (n : Nat) : (c n).calls = [] := by kernel_rfl
theorem fits (n : Nat) : fnB tab hd Try.f46 (c n) rs (sp n).ps (sp n).r = true := by kernel_rfl
theorem sound (n : Nat) : Sound Try.prog (sp n) := by
  refine fnB_sound tabOk eqFacts mixed (fn := Try.f46) (c := c n) (rs := rs) (by kernel_rfl) ?_ (fits n) ?_
  · rw [calls]
    intro s hs; cases hs
  · rintro ⟨a0, a1, ⟨⟩⟩ y h
    exact (ok n a0 a1).trans h
theorem meets (n : Nat) : Meets Try.prog (sp n) := (sound n).meets
end r07_Reader_Take
/-! backwater/backwaterref11.LoadCallee -/
namespace r11_LoadCallee
abbrev ps : List (Ty × Bool) := [(.slB .U false (.int .u8), false)]
abbrev r : Ty := .tup (.pair (.opt TCallee') (.pair (.int .i64) .unit))
abbrev rs : List RV := [.t 2, .t 3]
abbrev R : Type := (rtOf ps r).den
abbrev Q : Type := St → Option R
abbrev E (l : List (Nat × Q)) : Ks R := ⟨retK rs ps r, l⟩
abbrev Z0 (x4 : Ty.den (.box TReader)) (x5 : Ty.den (.box TCallee')) : St := [(4, some ⟨.box TReader, x4⟩), (5, some ⟨.box TCallee', x5⟩)]
abbrev Z1 (x4 : Ty.den (.box TReader)) (x5 : Ty.den (.box TCallee')) (x6 : Ty.den (.int .i64)) : St := [(4, some ⟨.box TReader, x4⟩), (5, some ⟨.box TCallee', x5⟩), (6, some ⟨.int .i64, x6⟩)]
abbrev Z2 (x4 : Ty.den (.box TReader)) (x5 : Ty.den (.box TCallee')) (x6 : Ty.den (.int .i64)) (x7 : Ty.den (.box Ttaken)) : St := [(4, some ⟨.box TReader, x4⟩), (5, some ⟨.box TCallee', x5⟩), (6, some ⟨.int .i64, x6⟩), (7, some ⟨.box Ttaken, x7⟩)]
abbrev Z3 (x4 : Ty.den (.box TReader)) (x5 : Ty.den (.box TCallee')) (x6 : Ty.den (.int .i64)) (x7 : Ty.den (.box Ttaken)) (x8 : Ty.den (.int .i64)) : St := [(4, some ⟨.box TReader, x4⟩), (5, some ⟨.box TCallee', x5⟩), (6, some ⟨.int .i64, x6⟩), (7, some ⟨.box Ttaken, x7⟩), (8, some ⟨.int .i64, x8⟩)]
noncomputable def d1 (n : Nat) : XC :=
  (.seq (.seq (.reg (.op (.bor 72 4) none <| .op (.nilchk 73 (.t 72)) none <| .op (.fa 74 73 1 1) none <| .op (.ld 75 74 1 false) none <| .op (.mv 76 (.t 75)) none <| .grp 76 false (.op (.bor 77 4) (some ([4, 76, 77], [77])) <| .op (.nilchk 78 (.t 77)) (some ([4, 76, 77, 78], [78])) <| .op (.fa 79 78 0 0) (some ([4, 76, 78, 79], [79])) <| .op (.ld 80 79 1 false) (some ([4, 76, 79, 80], [80])) <| .op (.len 81 (.t 80) false) (some ([76, 80, 81], [81])) <| .op (.bin 82 .neq (.t 81) (.c ⟨.int .i64, ((0 : Int) : Int)⟩)) (some ([76, 81, 82], [82])) <| .nil) 82 83 [77, 78, 79, 80, 81, 82] <| .nil)) <|
  (.cond (.t 83)
  (.seq (.reg (.op (.mv 2 (.c ⟨.nil 1, ()⟩)) none <| .op (.mv 3 (.c ⟨.int .i64, ((3 : Int) : Int)⟩)) none <| .nil)) <|
  .ret)
  .skip)) <|
  (.seq (.reg (.op (.take 84 5) none <| .op (.take 2 84) none <| .op (.mv 3 (.c ⟨.int .i64, ((0 : Int) : Int)⟩)) none <| .nil)) <|
  .ret))
noncomputable abbrev c1 (n : Nat) : XC := d1 n
noncomputable def j1 (n : Nat) (x4 : DReader) (x5 : DCallee') : Option ((Option DCallee') × Int × Unit) :=
  (bif x4.2.1 then some true else (some (!decide ((x4.1.length : Int) = (0 : Int))))).bind fun g1 =>
  bif g1 then (some (none, (3 : Int), ()))
  else (some ((some (x5.1, x5.2)), (0 : Int), ()))
theorem s1 (n : Nat) (x4 : DReader) (x5 : DCallee') : ev (c1 n) (Z0 x4 x5) (E []) (retK rs ps r) = j1 n x4 x5 := by kernel_rfl
noncomputable def H1 (n : Nat) (X : XC) : Q := fun st => ghK [.keep [4, 5]] st fun st => ev X st (E []) (retK rs ps r)
noncomputable abbrev K1 (n : Nat) : Q := H1 n (c1 n)
noncomputable def Kb2 (Kr2 : Q) : Q := fun st => ghK [.keep [4, 5, 6]] st Kr2
noncomputable def d3 (n : Nat) : XC :=
  (.aft (.reg (.op (.mv 15 (.t 6)) none <| .op (.bin 16 .add (.t 15) (.c ⟨.int .i64, ((1 : Int) : Int)⟩)) none <| .op (.mv 6 (.t 16)) none <| .nil)) [.keep [4, 5, 6]])
noncomputable abbrev c3 (n : Nat) : XC := d3 n
theorem qb2_0 (Kr2 : Q) (kr2 : DReader → DCallee' → Int → Option ((Option DCallee') × Int × Unit)) (hK2 : ∀ (x4 : DReader) (x5 : DCallee') (x6 : Int), Kr2 (Z1 x4 x5 x6) = kr2 x4 x5 x6) (x4 : DReader) (x5 : DCallee') (x6 : Int) : Kb2 Kr2 (Z1 x4 x5 x6) = kr2 (x4.1, x4.2.1, x4.2.2) (x5.1, x5.2) x6 := (by kernel_rfl : _ = Kr2 (Z1 ((x4.1, x4.2.1, x4.2.2) : DReader) ((x5.1, x5.2) : DCallee') x6)).trans (hK2 (x4.1, x4.2.1, x4.2.2) (x5.1, x5.2) x6)
noncomputable def j3 (n : Nat) (kr2 : DReader → DCallee' → Int → Option ((Option DCallee') × Int × Unit)) (x4 : DReader) (x5 : DCallee') (x6 : Int) : Option ((Option DCallee') × Int × Unit) :=
  kr2 (x4.1, x4.2.1, x4.2.2) (x5.1, x5.2) (IntKind.i64.wrap (x6 + (1 : Int)))
theorem w3 (n : Nat) (Kr2 : Q) (x4 : DReader) (x5 : DCallee') (x6 : Int) (K1 : Q) (Kb2 : Q) : ev (d3 n) (Z1 x4 x5 x6) (E [(0, K1)]) Kb2 =
  (Kb2 (Z1 x4 x5 (IntKind.i64.wrap (x6 + (1 : Int)))) : Option R) := by kernel_rfl
theorem s3 (n : Nat) (Kr2 : Q) (kr2 : DReader → DCallee' → Int → Option ((Option DCallee') × Int × Unit)) (hK2 : ∀ (x4 : DReader) (x5 : DCallee') (x6 : Int), Kr2 (Z1 x4 x5 x6) = kr2 x4 x5 x6) (x4 : DReader) (x5 : DCallee') (x6 : Int) : ev (c3 n) (Z1 x4 x5 x6) (E [(0, (K1 n))]) (Kb2 Kr2) = j3 n kr2 x4 x5 x6 := (w3 n Kr2 x4 x5 x6 (K1 n) (Kb2 Kr2)).trans (by simp -implicitDefEqProofs only [j3, qb2_0 Kr2 kr2 hK2] <;> kernel_rfl)
noncomputable def H3 (n : Nat) (K1 : Q) (Kb2 : Q) (X : XC) : Q := fun st => ghK [.keep [4, 5, 6]] st fun st => ev X st (E [(0, K1)]) Kb2
noncomputable abbrev K3 (n : Nat) (Kr2 : Q) : Q := H3 n (K1 n) (Kb2 Kr2) (c3 n)
noncomputable def d6 (n : Nat) : XC :=
  (.regD (.op (.bor 66 5) (some ([5, 66], [66])) <| .op (.mv 67 (.t 6)) (some ([6, 67], [67])) <| .op (.ld 68 7 4 true) (some ([7, 68], [68])) <| .op (.nilchk 69 (.t 66)) (some ([5, 66, 69], [69])) <| .op (.fa 70 69 0 0) (some ([5, 69, 70], [70])) <| .op (.idxA 71 (.t 70) (.t 67) 4 4) (some ([5, 67, 70, 71], [71])) <| .op (.stS 71 (.t 68) 4) (some ([5, 68, 71], [5])) <| .nil))
noncomputable abbrev c6 (n : Nat) : XC := d6 n
theorem q3_0_r (n : Nat) (Kr2 : Q) (K1 : Q) (Kb2 : Q) (X : XC) (x4 : DReader) (x5 : DCallee') (x6 : Int) : H3 n K1 Kb2 X (Z1 x4 x5 x6) = (ev X (Z1 ((x4.1, x4.2.1, x4.2.2) : DReader) ((x5.1, x5.2) : DCallee') x6) (E [(0, K1)]) Kb2 : Option R) := by kernel_rfl
theorem q3_0 (n : Nat) (Kr2 : Q) (kr2 : DReader → DCallee' → Int → Option ((Option DCallee') × Int × Unit)) (hK2 : ∀ (x4 : DReader) (x5 : DCallee') (x6 : Int), Kr2 (Z1 x4 x5 x6) = kr2 x4 x5 x6) (x4 : DReader) (x5 : DCallee') (x6 : Int) : K3 n Kr2 (Z1 x4 x5 x6) = j3 n kr2 (x4.1, x4.2.1, x4.2.2) (x5.1, x5.2) x6 := (q3_0_r n Kr2 (K1 n) (Kb2 Kr2) (c3 n) x4 x5 x6).trans (s3 n Kr2 kr2 hK2 (x4.1, x4.2.1, x4.2.2) (x5.1, x5.2) x6)
noncomputable def j6 (n : Nat) (kr2 : DReader → DCallee' → Int → Option ((Option DCallee') × Int × Unit)) (x4 : DReader) (x5 : DCallee') (x6 : Int) (x7 : Dtaken) : Option ((Option DCallee') × Int × Unit) :=
  inK' x6 4 (j3 n kr2 (x4.1, x4.2.1, x4.2.2) ((lset x5.1 x6 x7), x5.2) x6)
theorem w6 (n : Nat) (Kr2 : Q) (x4 : DReader) (x5 : DCallee') (x6 : Int) (x7 : Dtaken) (K3 : Q) (K1 : Q) : ev (d6 n) (Z2 x4 x5 x6 x7) (E [(1, K3), (0, K1)]) (fun st => ghK [.keep [4, 5, 6]] st K3) =
  (inK' x6 4 (K3 (Z1 x4 (((lset x5.1 x6 x7), x5.2) : DCallee') x6)) : Option R) := by kernel_rfl
theorem s6 (n : Nat) (Kr2 : Q) (kr2 : DReader → DCallee' → Int → Option ((Option DCallee') × Int × Unit)) (hK2 : ∀ (x4 : DReader) (x5 : DCallee') (x6 : Int), Kr2 (Z1 x4 x5 x6) = kr2 x4 x5 x6) (x4 : DReader) (x5 : DCallee') (x6 : Int) (x7 : Dtaken) : ev (c6 n) (Z2 x4 x5 x6 x7) (E [(1, (K3 n Kr2)), (0, (K1 n))]) (fun st => ghK [.keep [4, 5, 6]] st (K3 n Kr2)) = j6 n kr2 x4 x5 x6 x7 := (w6 n Kr2 x4 x5 x6 x7 (K3 n Kr2) (K1 n)).trans (by simp -implicitDefEqProofs only [j6, q3_0 n Kr2 kr2 hK2] <;> kernel_rfl)
noncomputable def H6 (n : Nat) (K3 : Q) (K1 : Q) (X : XC) : Q := fun st => ghK [.keep [4, 5, 6, 7]] st fun st => ev X st (E [(1, K3), (0, K1)]) (fun st => ghK [.keep [4, 5, 6]] st K3)
noncomputable abbrev K6 (n : Nat) (Kr2 : Q) : Q := H6 n (K3 n Kr2) (K1 n) (c6 n)
noncomputable def d7 (n : Nat) : XC :=
  (.aft (.reg (.op (.bor 61 4) none <| .op (.mv 62 (.t 8)) none <| .op (.call (some 63) (r07_Reader_Take.sp n) [.l 61, .v (.t 62)]) none <| .op (.cvt 64 .b2s (.t 63)) none <| .op (.fa 65 7 3 3) none <| .op (.st 65 (.t 64) 1) none <| .nil)) [.keep [4, 5, 6, 7]])
noncomputable abbrev c7 (n : Nat) : XC := d7 n
theorem q6_0_r (n : Nat) (Kr2 : Q) (K3 : Q) (K1 : Q) (X : XC) (x4 : DReader) (x5 : DCallee') (x6 : Int) (x7 : Dtaken) : H6 n K3 K1 X (Z2 x4 x5 x6 x7) = (ev X (Z2 ((x4.1, x4.2.1, x4.2.2) : DReader) ((x5.1, x5.2) : DCallee') x6 ((x7.1, x7.2.1, x7.2.2.1, x7.2.2.2.1, x7.2.2.2.2) : Dtaken)) (E [(1, K3), (0, K1)]) (fun st => ghK [.keep [4, 5, 6]] st K3) : Option R) := by kernel_rfl
theorem q6_0 (n : Nat) (Kr2 : Q) (kr2 : DReader → DCallee' → Int → Option ((Option DCallee') × Int × Unit)) (hK2 : ∀ (x4 : DReader) (x5 : DCallee') (x6 : Int), Kr2 (Z1 x4 x5 x6) = kr2 x4 x5 x6) (x4 : DReader) (x5 : DCallee') (x6 : Int) (x7 : Dtaken) : K6 n Kr2 (Z2 x4 x5 x6 x7) = j6 n kr2 (x4.1, x4.2.1, x4.2.2) (x5.1, x5.2) x6 (x7.1, x7.2.1, x7.2.2.1, x7.2.2.2.1, x7.2.2.2.2) := (q6_0_r n Kr2 (K3 n Kr2) (K1 n) (c6 n) x4 x5 x6 x7).trans (s6 n Kr2 kr2 hK2 (x4.1, x4.2.1, x4.2.2) (x5.1, x5.2) x6 (x7.1, x7.2.1, x7.2.2.1, x7.2.2.2.1, x7.2.2.2.2))
noncomputable def j7 (n : Nat) (kr2 : DReader → DCallee' → Int → Option ((Option DCallee') × Int × Unit)) (x4 : DReader) (x5 : DCallee') (x6 : Int) (x7 : Dtaken) (x8 : Int) : Option ((Option DCallee') × Int × Unit) :=
  (r07_Reader_Take.f n (x4.1, x4.2.1, x4.2.2) x8).bind fun r1 => j6 n kr2 (r1.1.1, r1.1.2.1, r1.1.2.2) (x5.1, x5.2) x6 (x7.1, x7.2.1, x7.2.2.1, r1.2, x7.2.2.2.2)
theorem w7 (n : Nat) (Kr2 : Q) (x4 : DReader) (x5 : DCallee') (x6 : Int) (x7 : Dtaken) (x8 : Int) (K3 : Q) (K1 : Q) (K6 : Q) : ev (d7 n) (Z3 x4 x5 x6 x7 x8) (E [(1, K3), (0, K1)]) K6 =
  ((r07_Reader_Take.f n (x4.1, x4.2.1, x4.2.2) x8).bind fun r1 => K6 (Z2 r1.1 x5 x6 ((x7.1, x7.2.1, x7.2.2.1, r1.2, x7.2.2.2.2) : Dtaken)) : Option R) := by kernel_rfl
theorem s7 (n : Nat) (Kr2 : Q) (kr2 : DReader → DCallee' → Int → Option ((Option DCallee') × Int × Unit)) (hK2 : ∀ (x4 : DReader) (x5 : DCallee') (x6 : Int), Kr2 (Z1 x4 x5 x6) = kr2 x4 x5 x6) (x4 : DReader) (x5 : DCallee') (x6 : Int) (x7 : Dtaken) (x8 : Int) : ev (c7 n) (Z3 x4 x5 x6 x7 x8) (E [(1, (K3 n Kr2)), (0, (K1 n))]) (K6 n Kr2) = j7 n kr2 x4 x5 x6 x7 x8 := (w7 n Kr2 x4 x5 x6 x7 x8 (K3 n Kr2) (K1 n) (K6 n Kr2)).trans (by simp -implicitDefEqProofs only [j7, q6_0 n Kr2 kr2 hK2] <;> kernel_rfl)
noncomputable def H7 (n : Nat) (K3 : Q) (K1 : Q) (K6 : Q) (X : XC) : Q := fun st => ghK [.keep [4, 5, 6, 7, 8]] st fun st => ev X st (E [(1, K3), (0, K1)]) K6
noncomputable abbrev K7 (n : Nat) (Kr2 : Q) : Q := H7 n (K3 n Kr2) (K1 n) (K6 n Kr2) (c7 n)
noncomputable def d5 (n : Nat) (X6 X7 : XC) : XC :=
  (.seq (.aft (.seq (.reg (.op (.fa 50 7 0 0) none <| .op (.ld 51 50 1 false) none <| .op (.bin 52 .eql (.t 51) (.c ⟨.int .i64, ((2 : Int) : Int)⟩)) none <| .nil)) <|
  (.cond (.t 52)
  (.seq (.reg (.op (.bor 53 4) none <| .op (.call (some 54) (r07_Reader_Number.sp n) [.l 53, .v (.c ⟨.int .i64, ((2 : Int) : Int)⟩)]) none <| .op (.cvt 55 (.int .i64) (.t 54)) none <| .op (.mv 8 (.t 55)) none <| .nil)) <|
  (.seq (.aft (.seq (.reg (.op (.mv 56 (.t 8)) none <| .op (.bin 57 .gtr (.t 56) (.c ⟨.int .i64, ((16384 : Int) : Int)⟩)) none <| .nil)) <|
  (.cond (.t 57)
  (.reg (.op (.bor 58 4) none <| .op (.nilchk 59 (.t 58)) none <| .op (.fa 60 59 1 1) none <| .op (.st 60 (.c ⟨.bool, (true : Bool)⟩) 1) none <| .nil))
  .skip)) [.keep [4, 5, 6, 7, 8]]) X7))
  .skip)) [.keep [4, 5, 6, 7]]) X6)
noncomputable abbrev c5 (n : Nat) : XC := d5 n (c6 n) (c7 n)
noncomputable def j5 (n : Nat) (kr2 : DReader → DCallee' → Int → Option ((Option DCallee') × Int × Unit)) (x4 : DReader) (x5 : DCallee') (x6 : Int) (x7 : Dtaken) : Option ((Option DCallee') × Int × Unit) :=
  bif (decide (x7.1 = (2 : Int))) then ((r07_Reader_Number.f n (x4.1, x4.2.1, x4.2.2) (2 : Int)).bind fun r1 => bif (decide ((16384 : Int) < (IntKind.i64.wrap r1.2))) then (j7 n kr2 (r1.1.1, true, r1.1.2.2) (x5.1, x5.2) x6 (x7.1, x7.2.1, x7.2.2.1, x7.2.2.2.1, x7.2.2.2.2) (IntKind.i64.wrap r1.2))
  else (j7 n kr2 (r1.1.1, r1.1.2.1, r1.1.2.2) (x5.1, x5.2) x6 (x7.1, x7.2.1, x7.2.2.1, x7.2.2.2.1, x7.2.2.2.2) (IntKind.i64.wrap r1.2)))
  else (j6 n kr2 (x4.1, x4.2.1, x4.2.2) (x5.1, x5.2) x6 (x7.1, x7.2.1, x7.2.2.1, x7.2.2.2.1, x7.2.2.2.2))
theorem w5 (n : Nat) (Kr2 : Q) (x4 : DReader) (x5 : DCallee') (x6 : Int) (x7 : Dtaken) (K3 : Q) (K1 : Q) (X6 X7 : XC) : ev (d5 n X6 X7) (Z2 x4 x5 x6 x7) (E [(1, K3), (0, K1)]) (fun st => ghK [.keep [4, 5, 6]] st K3) =
  (bif (decide (x7.1 = (2 : Int))) then ((r07_Reader_Number.f n (x4.1, x4.2.1, x4.2.2) (2 : Int)).bind fun r1 => bif (decide ((16384 : Int) < (IntKind.i64.wrap r1.2))) then (ev X7 (Z3 ((r1.1.1, true, r1.1.2.2) : DReader) ((x5.1, x5.2) : DCallee') x6 ((x7.1, x7.2.1, x7.2.2.1, x7.2.2.2.1, x7.2.2.2.2) : Dtaken) (IntKind.i64.wrap r1.2)) (E [(1, K3), (0, K1)]) (H6 n K3 K1 X6))
  else (ev X7 (Z3 ((r1.1.1, r1.1.2.1, r1.1.2.2) : DReader) ((x5.1, x5.2) : DCallee') x6 ((x7.1, x7.2.1, x7.2.2.1, x7.2.2.2.1, x7.2.2.2.2) : Dtaken) (IntKind.i64.wrap r1.2)) (E [(1, K3), (0, K1)]) (H6 n K3 K1 X6)))
  else (ev X6 (Z2 ((x4.1, x4.2.1, x4.2.2) : DReader) ((x5.1, x5.2) : DCallee') x6 ((x7.1, x7.2.1, x7.2.2.1, x7.2.2.2.1, x7.2.2.2.2) : Dtaken)) (E [(1, K3), (0, K1)]) (fun st => ghK [.keep [4, 5, 6]] st K3)) : Option R) := by kernel_rfl
theorem s5 (n : Nat) (Kr2 : Q) (kr2 : DReader → DCallee' → Int → Option ((Option DCallee') × Int × Unit)) (hK2 : ∀ (x4 : DReader) (x5 : DCallee') (x6 : Int), Kr2 (Z1 x4 x5 x6) = kr2 x4 x5 x6) (x4 : DReader) (x5 : DCallee') (x6 : Int) (x7 : Dtaken) : ev (c5 n) (Z2 x4 x5 x6 x7) (E [(1, (K3 n Kr2)), (0, (K1 n))]) (fun st => ghK [.keep [4, 5, 6]] st (K3 n Kr2)) = j5 n kr2 x4 x5 x6 x7 := (w5 n Kr2 x4 x5 x6 x7 (K3 n Kr2) (K1 n) (c6 n) (c7 n)).trans (by simp -implicitDefEqProofs only [j5, s7 n Kr2 kr2 hK2, s6 n Kr2 kr2 hK2] <;> kernel_rfl)
noncomputable def H5 (n : Nat) (K3 : Q) (K1 : Q) (X : XC) : Q := fun st => ghK [.keep [4, 5, 6, 7]] st fun st => ev X st (E [(1, K3), (0, K1)]) (fun st => ghK [.keep [4, 5, 6]] st K3)
noncomputable abbrev K5 (n : Nat) (Kr2 : Q) : Q := H5 n (K3 n Kr2) (K1 n) (c5 n)
noncomputable def d4 (n : Nat) (X5 : XC) : XC :=
  (.aft (.seq (.seq (.reg (.op (.fa 27 7 0 0) none <| .op (.ld 28 27 1 false) none <| .op (.bin 29 .eql (.t 28) (.c ⟨.int .i64, ((0 : Int) : Int)⟩)) none <| .op (.mv 30 (.t 29)) none <| .grp 30 false (.op (.bor 31 4) (some ([4, 30, 31], [31])) <| .op (.nilchk 32 (.t 31)) (some ([4, 30, 31, 32], [32])) <| .op (.fa 33 32 1 1) (some ([4, 30, 32, 33], [33])) <| .op (.ld 34 33 1 false) (some ([4, 30, 33, 34], [34])) <| .nil) 34 35 [31, 32, 33, 34] <| .nil)) <|
  (.cond (.t 35)
  (.pre [.keep [4, 5, 6]] (.exit 1))
  .skip)) <|
  (.seq (.reg (.op (.bor 36 4) none <| .op (.call (some 37) (r07_Reader_Number.sp n) [.l 36, .v (.c ⟨.int .i64, ((4 : Int) : Int)⟩)]) none <| .op (.cvt 38 (.int .u32) (.t 37)) none <| .op (.bor 39 4) none <| .op (.call (some 40) (r07_Reader_Number.sp n) [.l 39, .v (.c ⟨.int .i64, ((4 : Int) : Int)⟩)]) none <| .op (.cvt 41 (.int .u32) (.t 40)) none <| .op (.fa 42 7 1 1) none <| .op (.st 42 (.t 38) 1) none <| .op (.fa 43 7 2 2) none <| .op (.st 43 (.t 41) 1) none <| .nil)) <|
  (.seq (.aft (.seq (.pre [.keep [4, 5, 6, 7]] (.reg (.op (.fa 44 7 2 2) none <| .op (.ld 45 44 1 false) none <| .op (.bin 46 .eql (.t 45) (.c ⟨.int .u32, ((0 : Int) : Int)⟩)) none <| .nil))) <|
  (.cond (.t 46)
  (.reg (.op (.bor 47 4) none <| .op (.nilchk 48 (.t 47)) none <| .op (.fa 49 48 1 1) none <| .op (.st 49 (.c ⟨.bool, (true : Bool)⟩) 1) none <| .nil))
  .skip)) [.keep [4, 5, 6, 7]]) X5))) [.keep [4, 5, 6]])
noncomputable abbrev c4 (n : Nat) : XC := d4 n (c5 n)
noncomputable def j4 (n : Nat) (kr2 : DReader → DCallee' → Int → Option ((Option DCallee') × Int × Unit)) (x4 : DReader) (x5 : DCallee') (x6 : Int) (x7 : Dtaken) : Option ((Option DCallee') × Int × Unit) :=
  (bif (decide (x7.1 = (0 : Int))) then some true else (some x4.2.1)).bind fun g1 =>
  bif g1 then (j3 n kr2 (x4.1, x4.2.1, x4.2.2) (x5.1, x5.2) x6)
  else ((r07_Reader_Number.f n (x4.1, x4.2.1, x4.2.2) (4 : Int)).bind fun r2 => (r07_Reader_Number.f n (r2.1.1, r2.1.2.1, r2.1.2.2) (4 : Int)).bind fun r3 => bif (decide ((IntKind.u32.wrap r3.2) = (0 : Int))) then (j5 n kr2 (r3.1.1, true, r3.1.2.2) (x5.1, x5.2) x6 (x7.1, (IntKind.u32.wrap r2.2), (IntKind.u32.wrap r3.2), x7.2.2.2.1, x7.2.2.2.2))
  else (j5 n kr2 (r3.1.1, r3.1.2.1, r3.1.2.2) (x5.1, x5.2) x6 (x7.1, (IntKind.u32.wrap r2.2), (IntKind.u32.wrap r3.2), x7.2.2.2.1, x7.2.2.2.2)))
theorem w4 (n : Nat) (Kr2 : Q) (x4 : DReader) (x5 : DCallee') (x6 : Int) (x7 : Dtaken) (K3 : Q) (K1 : Q) (X5 : XC) : ev (d4 n X5) (Z2 x4 x5 x6 x7) (E [(1, K3), (0, K1)]) K3 =
  ((bif (decide (x7.1 = (0 : Int))) then some true else (some x4.2.1)).bind fun g1 =>
  bif g1 then (K3 (Z1 x4 x5 x6))
  else ((r07_Reader_Number.f n (x4.1, x4.2.1, x4.2.2) (4 : Int)).bind fun r2 => (r07_Reader_Number.f n (r2.1.1, r2.1.2.1, r2.1.2.2) (4 : Int)).bind fun r3 => bif (decide ((IntKind.u32.wrap r3.2) = (0 : Int))) then (ev X5 (Z2 ((r3.1.1, true, r3.1.2.2) : DReader) ((x5.1, x5.2) : DCallee') x6 ((x7.1, (IntKind.u32.wrap r2.2), (IntKind.u32.wrap r3.2), x7.2.2.2.1, x7.2.2.2.2) : Dtaken)) (E [(1, K3), (0, K1)]) (fun st => ghK [.keep [4, 5, 6]] st K3))
  else (ev X5 (Z2 ((r3.1.1, r3.1.2.1, r3.1.2.2) : DReader) ((x5.1, x5.2) : DCallee') x6 ((x7.1, (IntKind.u32.wrap r2.2), (IntKind.u32.wrap r3.2), x7.2.2.2.1, x7.2.2.2.2) : Dtaken)) (E [(1, K3), (0, K1)]) (fun st => ghK [.keep [4, 5, 6]] st K3))) : Option R) := by kernel_rfl
theorem s4 (n : Nat) (Kr2 : Q) (kr2 : DReader → DCallee' → Int → Option ((Option DCallee') × Int × Unit)) (hK2 : ∀ (x4 : DReader) (x5 : DCallee') (x6 : Int), Kr2 (Z1 x4 x5 x6) = kr2 x4 x5 x6) (x4 : DReader) (x5 : DCallee') (x6 : Int) (x7 : Dtaken) : ev (c4 n) (Z2 x4 x5 x6 x7) (E [(1, (K3 n Kr2)), (0, (K1 n))]) (K3 n Kr2) = j4 n kr2 x4 x5 x6 x7 := (w4 n Kr2 x4 x5 x6 x7 (K3 n Kr2) (K1 n) (c5 n)).trans (by simp -implicitDefEqProofs only [j4, q3_0 n Kr2 kr2 hK2, s5 n Kr2 kr2 hK2] <;> kernel_rfl)
noncomputable def H4 (n : Nat) (K3 : Q) (K1 : Q) (X : XC) : Q := fun st => ghK [.keep [4, 5, 6, 7]] st fun st => ev X st (E [(1, K3), (0, K1)]) K3
noncomputable abbrev K4 (n : Nat) (Kr2 : Q) : Q := H4 n (K3 n Kr2) (K1 n) (c4 n)
noncomputable def db2 (n : Nat) (X3 X4 : XC) : XC :=
  (.aft (.seq (.seq (.reg (.op (.mv 13 (.t 6)) none <| .op (.bin 14 .leq (.t 13) (.c ⟨.int .i64, ((3 : Int) : Int)⟩)) none <| .nil)) <|
  (.cond (.t 14)
  .skip
  (.pre [.keep [4, 5]] (.exit 0)))) <|
  (.seq (.aft (.block 1 (.seq (.reg (.op (.bor 17 4) none <| .op (.call (some 18) (r07_Reader_Number.sp n) [.l 17, .v (.c ⟨.int .i64, ((1 : Int) : Int)⟩)]) none <| .op (.cvt 19 (.int .i64) (.t 18)) none <| .op (.build 20 ⟨Ttaken, (((0 : Int), (0 : Int), (0 : Int), ([] : List Int), ()) : Dtaken)⟩ [(0, (.t 19), false)]) none <| .op (.alloc 7 ⟨Ttaken, (((0 : Int), (0 : Int), (0 : Int), ([] : List Int), ()) : Dtaken)⟩) none <| .op (.st 7 (.t 20) 4) none <| .nil)) <|
  (.seq (.aft (.seq (.reg (.op (.fa 21 7 0 0) none <| .op (.ld 22 21 1 false) none <| .op (.bin 23 .gtr (.t 22) (.c ⟨.int .i64, ((2 : Int) : Int)⟩)) none <| .nil)) <|
  (.cond (.t 23)
  (.reg (.op (.bor 24 4) none <| .op (.nilchk 25 (.t 24)) none <| .op (.fa 26 25 1 1) none <| .op (.st 26 (.c ⟨.bool, (true : Bool)⟩) 1) none <| .nil))
  .skip)) [.keep [4, 5, 6, 7]]) X4))) [.keep [4, 5, 6]]) X3)) [.keep [4, 5, 6]])
noncomputable abbrev cb2 (n : Nat) : XC := db2 n (c3 n) (c4 n)
theorem q1_0_r (n : Nat) (X : XC) (x4 : DReader) (x5 : DCallee') : H1 n X (Z0 x4 x5) = (ev X (Z0 ((x4.1, x4.2.1, x4.2.2) : DReader) ((x5.1, x5.2) : DCallee')) (E []) (retK rs ps r) : Option R) := by kernel_rfl
theorem q1_0 (n : Nat) (x4 : DReader) (x5 : DCallee') : K1 n (Z0 x4 x5) = j1 n (x4.1, x4.2.1, x4.2.2) (x5.1, x5.2) := (q1_0_r n (c1 n) x4 x5).trans (s1 n (x4.1, x4.2.1, x4.2.2) (x5.1, x5.2))
noncomputable def l2 (n : Nat) : Nat → DReader → DCallee' → Int → Option ((Option DCallee') × Int × Unit)
  | 0, _, _, _ => none
  | k + 1, x4, x5, x6 =>
  bif (decide (x6 ≤ (3 : Int))) then ((r07_Reader_Number.f n (x4.1, x4.2.1, x4.2.2) (1 : Int)).bind fun r1 => bif (decide ((2 : Int) < (IntKind.i64.wrap r1.2))) then (j4 n (l2 n k) (r1.1.1, true, r1.1.2.2) (x5.1, x5.2) x6 ((IntKind.i64.wrap r1.2), (0 : Int), (0 : Int), ([] : List Int), ()))
  else (j4 n (l2 n k) (r1.1.1, r1.1.2.1, r1.1.2.2) (x5.1, x5.2) x6 ((IntKind.i64.wrap r1.2), (0 : Int), (0 : Int), ([] : List Int), ())))
  else (j1 n (x4.1, x4.2.1, x4.2.2) (x5.1, x5.2))
theorem wb2 (n : Nat) (Kr2 : Q) (x4 : DReader) (x5 : DCallee') (x6 : Int) (K1 : Q) (X3 X4 : XC) : ev (db2 n X3 X4) (keepSt (Z1 x4 x5 x6) [4, 5, 6]) (E [(0, K1)]) Kr2 =
  (bif (decide (x6 ≤ (3 : Int))) then ((r07_Reader_Number.f n (x4.1, x4.2.1, x4.2.2) (1 : Int)).bind fun r1 => bif (decide ((2 : Int) < (IntKind.i64.wrap r1.2))) then (ev X4 (Z2 ((r1.1.1, true, r1.1.2.2) : DReader) ((x5.1, x5.2) : DCallee') x6 (((IntKind.i64.wrap r1.2), (0 : Int), (0 : Int), ([] : List Int), ()) : Dtaken)) (E [(1, (H3 n K1 (Kb2 Kr2) X3)), (0, K1)]) (H3 n K1 (Kb2 Kr2) X3))
  else (ev X4 (Z2 ((r1.1.1, r1.1.2.1, r1.1.2.2) : DReader) ((x5.1, x5.2) : DCallee') x6 (((IntKind.i64.wrap r1.2), (0 : Int), (0 : Int), ([] : List Int), ()) : Dtaken)) (E [(1, (H3 n K1 (Kb2 Kr2) X3)), (0, K1)]) (H3 n K1 (Kb2 Kr2) X3)))
  else (K1 (Z0 x4 x5)) : Option R) := by kernel_rfl
theorem l2_ok (n : Nat) (k : Nat) : ∀ (x4 : DReader) (x5 : DCallee') (x6 : Int), loopEv [4, 5, 6] (fun s K => ev (cb2 n) s (E [(0, (K1 n))]) K) k (Z1 x4 x5 x6) = l2 n k x4 x5 x6 := by
  induction k with
  | zero => intros; rfl
  | succ k ih =>
    intro x4 x5 x6
    exact (wb2 n (fun st => loopEv [4, 5, 6] (fun s K => ev (cb2 n) s (E [(0, (K1 n))]) K) k st) x4 x5 x6 (K1 n) (c3 n) (c4 n)).trans (by simp -implicitDefEqProofs only [l2, s4 n (fun st => loopEv [4, 5, 6] (fun s K => ev (cb2 n) s (E [(0, (K1 n))]) K) k st) (l2 n k) ih, q1_0 n] <;> kernel_rfl)
noncomputable def d (n : Nat) (X1 Y2 : XC) : XC :=
  (.seq (.reg (.op (.mv 2 (.c ⟨.nil 1, ()⟩)) none <| .op (.mv 3 (.c ⟨.int .i64, ((0 : Int) : Int)⟩)) none <| .nil)) <|
  (.seq (.reg (.op (.mv 9 (.t 0)) none <| .op (.build 10 ⟨.pair (.slB .N false (.int .u8)) (.pair .bool .unit), ((([] : List Int), false, ()) : (List Int) × Bool × Unit)⟩ [(0, (.t 9), false)]) none <| .op (.boxv 11 (.t 10)) none <| .op (.take 4 11) none <| .nil)) <|
  (.seq (.reg (.op (.call (some 12) (r11_NewCallee.sp n) []) none <| .op (.take 5 12) none <| .nil)) <|
  (.seq (.aft (.seq (.reg (.op (.mv 6 (.c ⟨.int .i64, ((1 : Int) : Int)⟩)) none <| .nil)) <|
  (.block 0 (.pre [.keep [4, 5, 6]] (.loop n [4, 5, 6] Y2)))) [.keep [4, 5]]) X1))))
noncomputable abbrev c (n : Nat) : XC := d n (c1 n) (cb2 n)
noncomputable def f (n : Nat) (a0 : List Int) : Option ((Option DCallee') × Int × Unit) :=
  (r11_NewCallee.f n).bind fun r1 => l2 n n (a0, false, ()) (r1.1, r1.2) (1 : Int)
theorem w (n : Nat) (a0 : List Int) (X1 Y2 : XC) : evFn (d n X1 Y2) rs ps r (a0, ()) =
  ((r11_NewCallee.f n).bind fun r1 => loopEv [4, 5, 6] (fun s K => ev Y2 s (E [(0, (H1 n X1))]) K) n (Z1 ((a0, false, ()) : DReader) ((r1.1, r1.2) : DCallee') (1 : Int)) : Option R) := by kernel_rfl
theorem ok (n : Nat) (a0 : List Int) : evFn (c n) rs ps r (a0, ()) = f n a0 := (w n a0 (c1 n) (cb2 n)).trans (by simp -implicitDefEqProofs only [f, l2_ok n] <;> kernel_rfl)
noncomputable def sp (n : Nat) : FSpec := { f := 30, ps := ps, r := r, run := fun x => f n x.1 }
theorem calls (n : Nat) : (c n).calls = [r11_NewCallee.sp n, r07_Reader_Number.sp n, r07_Reader_Number.sp n, r07_Reader_Number.sp n, r07_Reader_Number.sp n, r07_Reader_Take.sp n] := by kernel_rfl
theorem fits (n : Nat) : fnB tab hd Try.f30 (c n) rs (sp n).ps (sp n).r = true := by kernel_rfl
theorem sound (n : Nat) : Sound Try.prog (sp n) := by
  refine fnB_sound tabOk eqFacts mixed (fn := Try.f30) (c := c n) (rs := rs) (by kernel_rfl) ?_ (fits n) ?_
  · rw [calls]
    intro s hs
    simp only [List.mem_cons, List.not_mem_nil, or_false] at hs
    rcases hs with rfl | rfl | rfl | rfl | rfl | rfl
    · exact r11_NewCallee.meets n
    · exact r07_Reader_Number.meets n
    · exact r07_Reader_Number.meets n
    · exact r07_Reader_Number.meets n
    · exact r07_Reader_Number.meets n
    · exact r07_Reader_Take.meets n
  · rintro ⟨a0, ⟨⟩⟩ y h
    exact (ok n a0).trans h
theorem meets (n : Nat) : Meets Try.prog (sp n) := (sound n).meets
end r11_LoadCallee
/-! backwater/rpc.NewCaller -/
namespace rpc_NewCaller
abbrev ps : List (Ty × Bool) := [(.int .u8, false), (.int .u32, false)]
abbrev r : Ty := .opt TCaller
abbrev rs : List RV := [.t 4]
abbrev R : Type := (rtOf ps r).den
abbrev Q : Type := St → Option R
abbrev E (l : List (Nat × Q)) : Ks R := ⟨retK rs ps r, l⟩
noncomputable def d (n : Nat) : XC :=
  (.seq (.reg (.op (.mv 4 (.c ⟨.nil 1, ()⟩)) none <| .nil)) <|
  (.seq (.seq (.reg (.op (.mv 5 (.t 0)) none <| .op (.bin 6 .eql (.t 5) (.c ⟨.int .u8, ((0 : Int) : Int)⟩)) none <| .op (.mv 7 (.t 6)) none <| .grp 7 false (.op (.mv 8 (.t 0)) (some ([0, 7, 8], [8])) <| .op (.bin 9 .gtr (.t 8) (.c ⟨.int .u8, ((3 : Int) : Int)⟩)) (some ([7, 8, 9], [9])) <| .nil) 9 10 [8, 9] <| .nil)) <|
  (.cond (.t 10)
  (.seq (.reg (.op (.mv 4 (.c ⟨.nil 1, ()⟩)) none <| .nil)) <|
  .ret)
  .skip)) <|
  (.seq (.reg (.op (.mv 11 (.t 0)) none <| .op (.mv 12 (.t 1)) none <| .op (.build 13 ⟨TPacket, (((0 : Int), (0 : Int), (0 : Int), (0 : Int), (0 : Int), ([] : List Int), ()) : DPacket)⟩ [(0, (.c ⟨.int .u8, ((1 : Int) : Int)⟩), false), (1, (.t 11), false), (3, (.t 12), false)]) none <| .op (.build 14 ⟨TCaller, ((((0 : Int), (0 : Int), (0 : Int), (0 : Int), (0 : Int), ([] : List Int), ()), false, (0 : Int), (0 : Int), ()) : DCaller)⟩ [(0, (.t 13), false)]) none <| .op (.boxv 15 (.t 14)) none <| .op (.take 4 15) none <| .nil)) <|
  .ret)))
noncomputable abbrev c (n : Nat) : XC := d n
noncomputable def f (n : Nat) (a0 : Int) (a1 : Int) : Option (Option DCaller) :=
  (bif (decide (a0 = (0 : Int))) then some true else (some (decide ((3 : Int) < a0)))).bind fun g1 =>
  bif g1 then (some none)
  else (some (some (((1 : Int), a0, (0 : Int), a1, (0 : Int), ([] : List Int), ()), false, (0 : Int), (0 : Int), ())))
theorem ok (n : Nat) (a0 : Int) (a1 : Int) : evFn (c n) rs ps r (a0, a1, ()) = f n a0 a1 := by kernel_rfl
noncomputable def sp (n : Nat) : FSpec := { f := 14, ps := ps, r := r, run := fun x => f n x.1 x.2.1 }
theorem calls (n : Nat) : (c n).calls = [] := by kernel_rfl
theorem fits (n : Nat) : fnB tab hd Try.f14 (c n) rs (sp n).ps (sp n).r = true := by kernel_rfl
theorem sound (n : Nat) : Sound Try.prog (sp n) := by
  refine fnB_sound tabOk eqFacts mixed (fn := Try.f14) (c := c n) (rs := rs) (by kernel_rfl) ?_ (fits n) ?_
  · rw [calls]
    intro s hs; cases hs
  · rintro ⟨a0, a1, ⟨⟩⟩ y h
    exact (ok n a0 a1).trans h
theorem meets (n : Nat) : Meets Try.prog (sp n) := (sound n).meets
end rpc_NewCaller
/-! (*backwater/rpc.Caller).Call -/
namespace rpc_Caller_Call
abbrev ps : List (Ty × Bool) := [(.opt TCaller, true), (.str, false)]
abbrev r : Ty := .int .i64
abbrev rs : List RV := [.t 4]
abbrev R : Type := (rtOf ps r).den
abbrev Q : Type := St → Option R
abbrev E (l : List (Nat × Q)) : Ks R := ⟨retK rs ps r, l⟩
noncomputable def d1 (n : Nat) : XC :=
  (.seq (.reg (.op (.bor 24 0) none <| .op (.nilchk 25 (.t 24)) none <| .op (.fa 26 25 0 0) none <| .op (.fa 27 26 4 4) none <| .op (.ld 28 27 1 false) none <| .op (.bin 29 .add (.t 28) (.c ⟨.int .u32, ((1 : Int) : Int)⟩)) none <| .op (.nilchk 30 (.t 24)) none <| .op (.fa 31 30 0 0) none <| .op (.fa 32 31 4 4) none <| .op (.st 32 (.t 29) 1) none <| .nil)) <|
  (.seq (.reg (.op (.bor 33 0) none <| .op (.mv 34 (.t 1)) none <| .op (.nilchk 35 (.t 33)) none <| .op (.fa 36 35 0 0) none <| .op (.fa 37 36 5 5) none <| .op (.st 37 (.t 34) 1) none <| .nil)) <|
  (.seq (.pre [.keep [0]] (.reg (.op (.bor 38 0) none <| .op (.bor 39 0) none <| .op (.bor 40 0) none <| .op (.nilchk 41 (.t 38)) none <| .op (.fa 42 41 1 6) none <| .op (.st 42 (.c ⟨.bool, (true : Bool)⟩) 1) none <| .op (.nilchk 43 (.t 39)) none <| .op (.fa 44 43 2 7) none <| .op (.st 44 (.c ⟨.int .i64, ((0 : Int) : Int)⟩) 1) none <| .op (.nilchk 45 (.t 40)) none <| .op (.fa 46 45 3 8) none <| .op (.st 46 (.c ⟨.int .u64, ((0 : Int) : Int)⟩) 1) none <| .nil))) <|
  (.seq (.reg (.op (.mv 4 (.c ⟨.int .i64, ((0 : Int) : Int)⟩)) none <| .nil)) <|
  .ret))))
noncomputable abbrev c1 (n : Nat) : XC := d1 n
noncomputable def j1 (n : Nat) (x0 : DCaller) (x1 : List Int) : Option ((Option DCaller) × Int) :=
  some ((some ((x0.1.1, x0.1.2.1, x0.1.2.2.1, x0.1.2.2.2.1, (IntKind.u32.wrap (x0.1.2.2.2.2.1 + (1 : Int))), x1, x0.1.2.2.2.2.2.2), true, (0 : Int), (0 : Int), x0.2.2.2.2)), (0 : Int))
theorem s1 (n : Nat) (x0 : DCaller) (x1 : List Int) : ev (c1 n) [(0, some ⟨.box TCaller, x0⟩), (1, some ⟨.str, x1⟩)] (E []) (retK rs ps r) = j1 n x0 x1 := by kernel_rfl
noncomputable def H1 (n : Nat) (X : XC) : Q := fun st => ghK [.keep [0, 1]] st fun st => ev X st (E []) (retK rs ps r)
noncomputable abbrev K1 (n : Nat) : Q := H1 n (c1 n)
noncomputable def d (n : Nat) (X1 : XC) : XC :=
  (.seq (.reg (.op (.mv 4 (.c ⟨.int .i64, ((0 : Int) : Int)⟩)) none <| .nil)) <|
  (.seq (.aft (.block 0 (.seq (.pre [.split 0 []] (.reg (.op (.bor 6 0) none <| .op (.eqnil 7 (.t 6) false false) none <| .op (.mv 5 (.t 7)) none <| .nil))) <|
  (.cond (.t 5)
  (.seq (.reg (.op (.mv 4 (.c ⟨.int .i64, ((1 : Int) : Int)⟩)) none <| .nil)) <|
  .ret)
  (.seq (.reg (.op (.bor 9 0) none <| .op (.nilchk 10 (.t 9)) none <| .op (.fa 11 10 1 6) none <| .op (.ld 12 11 1 false) none <| .op (.mv 8 (.t 12)) none <| .nil)) <|
  (.cond (.t 8)
  (.seq (.reg (.op (.mv 4 (.c ⟨.int .i64, ((13 : Int) : Int)⟩)) none <| .nil)) <|
  .ret)
  (.seq (.reg (.op (.mv 14 (.t 1)) none <| .op (.len 15 (.t 14) true) none <| .op (.bin 16 .gtr (.t 15) (.c ⟨.int .i64, ((16384 : Int) : Int)⟩)) none <| .op (.mv 13 (.t 16)) none <| .nil)) <|
  (.cond (.t 13)
  (.seq (.pre [.keep [0]] (.reg (.op (.mv 4 (.c ⟨.int .i64, ((3 : Int) : Int)⟩)) none <| .nil))) <|
  .ret)
  (.seq (.pre [.keep [0, 1]] (.reg (.op (.bor 18 0) none <| .op (.nilchk 19 (.t 18)) none <| .op (.fa 20 19 0 0) none <| .op (.fa 21 20 4 4) none <| .op (.ld 22 21 1 false) none <| .op (.bin 23 .eql (.t 22) (.c ⟨.int .u32, ((4294967295 : Int) : Int)⟩)) none <| .op (.mv 17 (.t 23)) none <| .nil))) <|
  (.cond (.t 17)
  (.seq (.reg (.op (.mv 4 (.c ⟨.int .i64, ((2 : Int) : Int)⟩)) none <| .nil)) <|
  .ret)
  .skip))))))))) [.keep [0, 1]]) X1))
noncomputable abbrev c (n : Nat) : XC := d n (c1 n)
noncomputable def f (n : Nat) (a0 : Option DCaller) (a1 : List Int) : Option ((Option DCaller) × Int) :=
  optM a0 (some (none, (1 : Int))) fun p1 => bif p1.2.1 then (some ((some ((p1.1.1, p1.1.2.1, p1.1.2.2.1, p1.1.2.2.2.1, p1.1.2.2.2.2.1, p1.1.2.2.2.2.2.1, p1.1.2.2.2.2.2.2), p1.2.1, p1.2.2.1, p1.2.2.2.1, p1.2.2.2.2)), (13 : Int)))
  else (bif (decide ((16384 : Int) < (a1.length : Int))) then (some ((some ((p1.1.1, p1.1.2.1, p1.1.2.2.1, p1.1.2.2.2.1, p1.1.2.2.2.2.1, p1.1.2.2.2.2.2.1, p1.1.2.2.2.2.2.2), p1.2.1, p1.2.2.1, p1.2.2.2.1, p1.2.2.2.2)), (3 : Int)))
  else (bif (decide (p1.1.2.2.2.2.1 = (4294967295 : Int))) then (some ((some ((p1.1.1, p1.1.2.1, p1.1.2.2.1, p1.1.2.2.2.1, p1.1.2.2.2.2.1, p1.1.2.2.2.2.2.1, p1.1.2.2.2.2.2.2), p1.2.1, p1.2.2.1, p1.2.2.2.1, p1.2.2.2.2)), (2 : Int)))
  else (j1 n ((p1.1.1, p1.1.2.1, p1.1.2.2.1, p1.1.2.2.2.1, p1.1.2.2.2.2.1, p1.1.2.2.2.2.2.1, p1.1.2.2.2.2.2.2), p1.2.1, p1.2.2.1, p1.2.2.2.1, p1.2.2.2.2) a1)))
theorem w (n : Nat) (a0 : Option DCaller) (a1 : List Int) (X1 : XC) : evFn (d n X1) rs ps r (a0, a1, ()) =
  (optM a0 (some (none, (1 : Int))) fun p1 => bif p1.2.1 then (some ((some ((p1.1.1, p1.1.2.1, p1.1.2.2.1, p1.1.2.2.2.1, p1.1.2.2.2.2.1, p1.1.2.2.2.2.2.1, p1.1.2.2.2.2.2.2), p1.2.1, p1.2.2.1, p1.2.2.2.1, p1.2.2.2.2)), (13 : Int)))
  else (bif (decide ((16384 : Int) < (a1.length : Int))) then (some ((some ((p1.1.1, p1.1.2.1, p1.1.2.2.1, p1.1.2.2.2.1, p1.1.2.2.2.2.1, p1.1.2.2.2.2.2.1, p1.1.2.2.2.2.2.2), p1.2.1, p1.2.2.1, p1.2.2.2.1, p1.2.2.2.2)), (3 : Int)))
  else (bif (decide (p1.1.2.2.2.2.1 = (4294967295 : Int))) then (some ((some ((p1.1.1, p1.1.2.1, p1.1.2.2.1, p1.1.2.2.2.1, p1.1.2.2.2.2.1, p1.1.2.2.2.2.2.1, p1.1.2.2.2.2.2.2), p1.2.1, p1.2.2.1, p1.2.2.2.1, p1.2.2.2.2)), (2 : Int)))
  else (ev X1 [(0, some ⟨.box TCaller, (((p1.1.1, p1.1.2.1, p1.1.2.2.1, p1.1.2.2.2.1, p1.1.2.2.2.2.1, p1.1.2.2.2.2.2.1, p1.1.2.2.2.2.2.2), p1.2.1, p1.2.2.1, p1.2.2.2.1, p1.2.2.2.2) : DCaller)⟩), (1, some ⟨.str, a1⟩)] (E []) (retK rs ps r)))) : Option R) := by kernel_rfl
theorem ok (n : Nat) (a0 : Option DCaller) (a1 : List Int) : evFn (c n) rs ps r (a0, a1, ()) = f n a0 a1 := (w n a0 a1 (c1 n)).trans (by simp -implicitDefEqProofs only [f, s1 n] <;> kernel_rfl)
noncomputable def sp (n : Nat) : FSpec := { f := 15, ps := ps, r := r, run := fun x => f n x.1 x.2.1 }
theorem calls (n : Nat) : (c n).calls = [] := by kernel_rfl
theorem fits (n : Nat) : fnB tab hd Try.f15 (c n) rs (sp n).ps (sp n).r = true := by kernel_rfl
theorem sound (n : Nat) : Sound Try.prog (sp n) := by
  refine fnB_sound tabOk eqFacts mixed (fn := Try.f15) (c := c n) (rs := rs) (by kernel_rfl) ?_ (fits n) ?_
  · rw [calls]
    intro s hs; cases hs
  · rintro ⟨a0, a1, ⟨⟩⟩ y h
    exact (ok n a0 a1).trans h
theorem meets (n : Nat) : Meets Try.prog (sp n) := (sound n).meets
end rpc_Caller_Call
/-! (*backwater/rpc.Caller).Tick -/
namespace rpc_Caller_Tick
abbrev ps : List (Ty × Bool) := [(.opt TCaller, true), (.int .u64, false)]
abbrev r : Ty := .tup (.pair TPacket (.pair .bool .unit))
abbrev rs : List RV := [.c 4 6 true, .t 5]
abbrev R : Type := (rtOf ps r).den
abbrev Q : Type := St → Option R
abbrev E (l : List (Nat × Q)) : Ks R := ⟨retK rs ps r, l⟩
abbrev Z0 (x0 : Ty.den (.opt TCaller)) (x4 : Ty.den (.box TPacket)) : St := [(0, some ⟨.opt TCaller, x0⟩), (4, some ⟨.box TPacket, x4⟩)]
noncomputable def d1 (n : Nat) : XC :=
  (.seq .skip <|
  (.seq (.reg (.op (.ld 52 4 6 true) none <| .op (.st 4 (.t 52) 6) none <| .op (.mv 5 (.c ⟨.bool, (false : Bool)⟩)) none <| .nil)) <|
  .ret))
noncomputable abbrev c1 (n : Nat) : XC := d1 n
noncomputable def j1 (n : Nat) (x0 : Option DCaller) (x4 : DPacket) : Option ((Option DCaller) × (DPacket × Bool × Unit)) :=
  some (x0, (x4.1, x4.2.1, x4.2.2.1, x4.2.2.2.1, x4.2.2.2.2.1, x4.2.2.2.2.2.1, x4.2.2.2.2.2.2), false, ())
theorem s1 (n : Nat) (x0 : Option DCaller) (x4 : DPacket) : ev (c1 n) (Z0 x0 x4) (E [(1000000, (fun _ => none))]) (retK rs ps r) = j1 n x0 x4 := by kernel_rfl
noncomputable def H1 (n : Nat) (X : XC) : Q := fun st => ghK [.coe 0 (.opt TCaller), .keep [0, 4]] st fun st => ev X st (E [(1000000, (fun _ => none))]) (retK rs ps r)
noncomputable abbrev K1 (n : Nat) : Q := H1 n (c1 n)
noncomputable def d (n : Nat) (X1 : XC) : XC :=
  (.seq (.reg (.op (.alloc 4 ⟨TPacket, (((0 : Int), (0 : Int), (0 : Int), (0 : Int), (0 : Int), ([] : List Int), ()) : DPacket)⟩) none <| .op (.mv 5 (.c ⟨.bool, (false : Bool)⟩)) none <| .nil)) <|
  (.scope 0 (.seq (.seq (.pre [.split 0 []] (.reg (.op (.bor 6 0) none <| .op (.eqnil 7 (.t 6) false false) none <| .op (.mv 8 (.t 7)) none <| .grp 8 false (.op (.bor 9 0) (some ([0, 8, 9], [9])) <| .op (.nilchk 10 (.t 9)) (some ([0, 8, 9, 10], [10])) <| .op (.fa 11 10 1 6) (some ([0, 8, 10, 11], [11])) <| .op (.ld 12 11 1 false) (some ([0, 8, 11, 12], [12])) <| .op (.un 13 .not (.t 12)) (some ([8, 12, 13], [13])) <| .nil) 13 14 [9, 10, 11, 12, 13] <| .nil))) <|
  (.cond (.t 14)
  (.pre [.keep [0, 4]] (.goto 0))
  .skip)) <|
  (.seq (.seq (.reg (.op (.bor 15 0) none <| .op (.nilchk 16 (.t 15)) none <| .op (.fa 17 16 2 7) none <| .op (.ld 18 17 1 false) none <| .op (.bin 19 .gtr (.t 18) (.c ⟨.int .i64, ((0 : Int) : Int)⟩)) none <| .op (.mv 20 (.t 19)) none <| .grp 20 true (.op (.mv 21 (.t 1)) (some ([1, 20, 21], [21])) <| .op (.bor 22 0) (some ([0, 20, 22], [22])) <| .op (.nilchk 23 (.t 22)) (some ([0, 20, 22, 23], [23])) <| .op (.fa 24 23 3 8) (some ([0, 20, 23, 24], [24])) <| .op (.ld 25 24 1 false) (some ([0, 20, 24, 25], [25])) <| .op (.bin 26 .lss (.t 21) (.t 25)) (some ([20, 21, 25, 26], [26])) <| .op (.mv 27 (.t 26)) (some ([20, 26, 27], [27])) <| .grp 27 false (.op (.mv 28 (.t 1)) (some ([1, 27, 28], [28])) <| .op (.bor 29 0) (some ([0, 27, 29], [29])) <| .op (.nilchk 30 (.t 29)) (some ([0, 27, 29, 30], [30])) <| .op (.fa 31 30 3 8) (some ([0, 27, 30, 31], [31])) <| .op (.ld 32 31 1 false) (some ([0, 27, 31, 32], [32])) <| .op (.bin 33 .sub (.t 28) (.t 32)) (some ([27, 28, 32, 33], [33])) <| .op (.bin 34 .lss (.t 33) (.c ⟨.int .u64, ((4 : Int) : Int)⟩)) (some ([27, 33, 34], [34])) <| .nil) 34 35 [28, 29, 30, 31, 32, 33, 34] <| .nil) 35 36 [21, 22, 23, 24, 25, 26, 27, 28, 29, 30, 31, 32, 33, 34, 35] <| .nil)) <|
  (.cond (.t 36)
  (.pre [.keep [0, 4]] (.goto 0))
  .skip)) <|
  (.seq (.pre [.keep [0, 1, 4]] (.reg (.op (.bor 37 0) none <| .op (.nilchk 38 (.t 37)) none <| .op (.fa 39 38 2 7) none <| .op (.ld 40 39 1 false) none <| .op (.bin 41 .add (.t 40) (.c ⟨.int .i64, ((1 : Int) : Int)⟩)) none <| .op (.nilchk 42 (.t 37)) none <| .op (.fa 43 42 2 7) none <| .op (.st 43 (.t 41) 1) none <| .nil))) <|
  (.seq (.reg (.op (.bor 44 0) none <| .op (.mv 45 (.t 1)) none <| .op (.nilchk 46 (.t 44)) none <| .op (.fa 47 46 3 8) none <| .op (.st 47 (.t 45) 1) none <| .nil)) <|
  (.seq (.aft (.seq (.pre [.keep [0, 4]] (.reg (.op (.bor 48 0) none <| .op (.nilchk 49 (.t 48)) none <| .op (.fa 50 49 0 0) none <| .op (.ld 51 50 6 true) none <| .op (.st 4 (.t 51) 6) none <| .op (.mv 5 (.c ⟨.bool, (true : Bool)⟩)) none <| .nil))) <|
  .ret) [.coe 0 (.opt TCaller), .keep [0, 4]]) (.drop X1)))))) (.pre [.coe 0 (.opt TCaller), .keep [0, 4]] X1)))
noncomputable abbrev c (n : Nat) : XC := d n (c1 n)
noncomputable def f (n : Nat) (a0 : Option DCaller) (a1 : Int) : Option ((Option DCaller) × (DPacket × Bool × Unit)) :=
  optM a0 (j1 n none ((0 : Int), (0 : Int), (0 : Int), (0 : Int), (0 : Int), ([] : List Int), ())) fun p1 => (some (!p1.2.1)).bind fun g2 =>
  bif g2 then (j1 n (some ((p1.1.1, p1.1.2.1, p1.1.2.2.1, p1.1.2.2.2.1, p1.1.2.2.2.2.1, p1.1.2.2.2.2.2.1, p1.1.2.2.2.2.2.2), p1.2.1, p1.2.2.1, p1.2.2.2.1, p1.2.2.2.2)) ((0 : Int), (0 : Int), (0 : Int), (0 : Int), (0 : Int), ([] : List Int), ()))
  else ((bif (decide ((0 : Int) < p1.2.2.1)) then ((bif (decide (a1 < p1.2.2.2.1)) then some true else (some (decide ((IntKind.u64.wrap (a1 - p1.2.2.2.1)) < (4 : Int))))).bind fun g4 =>
  some g4) else some false).bind fun g3 =>
  bif g3 then (j1 n (some ((p1.1.1, p1.1.2.1, p1.1.2.2.1, p1.1.2.2.2.1, p1.1.2.2.2.2.1, p1.1.2.2.2.2.2.1, p1.1.2.2.2.2.2.2), p1.2.1, p1.2.2.1, p1.2.2.2.1, p1.2.2.2.2)) ((0 : Int), (0 : Int), (0 : Int), (0 : Int), (0 : Int), ([] : List Int), ()))
  else (some ((some ((p1.1.1, p1.1.2.1, p1.1.2.2.1, p1.1.2.2.2.1, p1.1.2.2.2.2.1, p1.1.2.2.2.2.2.1, p1.1.2.2.2.2.2.2), p1.2.1, (IntKind.i64.wrap (p1.2.2.1 + (1 : Int))), a1, p1.2.2.2.2)), (p1.1.1, p1.1.2.1, p1.1.2.2.1, p1.1.2.2.2.1, p1.1.2.2.2.2.1, p1.1.2.2.2.2.2.1, p1.1.2.2.2.2.2.2), true, ())))
theorem w (n : Nat) (a0 : Option DCaller) (a1 : Int) (X1 : XC) : evFn (d n X1) rs ps r (a0, a1, ()) =
  (optM a0 (ev X1 (Z0 (none : Option DCaller) (((0 : Int), (0 : Int), (0 : Int), (0 : Int), (0 : Int), ([] : List Int), ()) : DPacket)) (E [(1000000, (fun _ => none))]) (retK rs ps r)) fun p1 => (some (!p1.2.1)).bind fun g2 =>
  bif g2 then (ev X1 (Z0 ((some ((p1.1.1, p1.1.2.1, p1.1.2.2.1, p1.1.2.2.2.1, p1.1.2.2.2.2.1, p1.1.2.2.2.2.2.1, p1.1.2.2.2.2.2.2), p1.2.1, p1.2.2.1, p1.2.2.2.1, p1.2.2.2.2)) : Option DCaller) (((0 : Int), (0 : Int), (0 : Int), (0 : Int), (0 : Int), ([] : List Int), ()) : DPacket)) (E [(1000000, (fun _ => none))]) (retK rs ps r))
  else ((bif (decide ((0 : Int) < p1.2.2.1)) then ((bif (decide (a1 < p1.2.2.2.1)) then some true else (some (decide ((IntKind.u64.wrap (a1 - p1.2.2.2.1)) < (4 : Int))))).bind fun g4 =>
  some g4) else some false).bind fun g3 =>
  bif g3 then (ev X1 (Z0 ((some ((p1.1.1, p1.1.2.1, p1.1.2.2.1, p1.1.2.2.2.1, p1.1.2.2.2.2.1, p1.1.2.2.2.2.2.1, p1.1.2.2.2.2.2.2), p1.2.1, p1.2.2.1, p1.2.2.2.1, p1.2.2.2.2)) : Option DCaller) (((0 : Int), (0 : Int), (0 : Int), (0 : Int), (0 : Int), ([] : List Int), ()) : DPacket)) (E [(1000000, (fun _ => none))]) (retK rs ps r))
  else (some ((some ((p1.1.1, p1.1.2.1, p1.1.2.2.1, p1.1.2.2.2.1, p1.1.2.2.2.2.1, p1.1.2.2.2.2.2.1, p1.1.2.2.2.2.2.2), p1.2.1, (IntKind.i64.wrap (p1.2.2.1 + (1 : Int))), a1, p1.2.2.2.2)), (p1.1.1, p1.1.2.1, p1.1.2.2.1, p1.1.2.2.2.1, p1.1.2.2.2.2.1, p1.1.2.2.2.2.2.1, p1.1.2.2.2.2.2.2), true, ()))) : Option R) := by kernel_rfl
theorem ok (n : Nat) (a0 : Option DCaller) (a1 : Int) : evFn (c n) rs ps r (a0, a1, ()) = f n a0 a1 := (w n a0 a1 (c1 n)).trans (by simp -implicitDefEqProofs only [f, s1 n] <;> kernel_rfl)
noncomputable def sp (n : Nat) : FSpec := { f := 16, ps := ps, r := r, run := fun x => f n x.1 x.2.1 }
theorem calls (n : Nat) : (c n).calls = [] := by kernel_rfl
theorem fits (n : Nat) : fnB tab hd Try.f16 (c n) rs (sp n).ps (sp n).r = true := by kernel_rfl
theorem sound (n : Nat) : Sound Try.prog (sp n) := by
  refine fnB_sound tabOk eqFacts mixed (fn := Try.f16) (c := c n) (rs := rs) (by kernel_rfl) ?_ (fits n) ?_
  · rw [calls]
    intro s hs; cases hs
  · rintro ⟨a0, a1, ⟨⟩⟩ y h
    exact (ok n a0 a1).trans h
theorem meets (n : Nat) : Meets Try.prog (sp n) := (sound n).meets
end rpc_Caller_Tick
/-! backwater/frame.Right -/
namespace frame_Right
abbrev ps : List (Ty × Bool) := [(TPacket, false)]
abbrev r : Ty := .bool
abbrev rs : List RV := [.t 2]
abbrev R : Type := (rtOf ps r).den
abbrev Q : Type := St → Option R
abbrev E (l : List (Nat × Q)) : Ks R := ⟨retK rs ps r, l⟩
abbrev Z0 (x1 : Ty.den (.box TPacket)) (x3 : Ty.den (.int .u8)) : St := [(1, some ⟨.box TPacket, x1⟩), (3, some ⟨.int .u8, x3⟩)]
noncomputable def d1 (n : Nat) : XC :=
  (.seq (.reg (.op (.mv 20 (.t 3)) none <| .op (.bin 21 .geq (.t 20) (.c ⟨.int .u8, ((1 : Int) : Int)⟩)) none <| .op (.mv 22 (.t 21)) none <| .grp 22 true (.op (.mv 23 (.t 3)) (some ([3, 22, 23], [23])) <| .op (.bin 24 .leq (.t 23) (.c ⟨.int .u8, ((3 : Int) : Int)⟩)) (some ([22, 23, 24], [24])) <| .nil) 24 25 [23, 24] <| .op (.mv 26 (.t 25)) none <| .grp 26 true (.op (.fa 27 1 4 4) (some ([1, 26, 27], [27])) <| .op (.ld 28 27 1 false) (some ([1, 26, 27, 28], [28])) <| .op (.bin 29 .gtr (.t 28) (.c ⟨.int .u32, ((0 : Int) : Int)⟩)) (some ([26, 28, 29], [29])) <| .nil) 29 30 [27, 28, 29] <| .op (.mv 31 (.t 30)) none <| .grp 31 true (.op (.fa 32 1 5 5) (some ([1, 31, 32], [32])) <| .op (.ld 33 32 1 false) (some ([1, 31, 32, 33], [33])) <| .op (.len 34 (.t 33) true) (some ([31, 33, 34], [34])) <| .op (.bin 35 .leq (.t 34) (.c ⟨.int .i64, ((16384 : Int) : Int)⟩)) (some ([31, 34, 35], [35])) <| .nil) 35 36 [32, 33, 34, 35] <| .op (.mv 2 (.t 36)) none <| .nil)) <|
  .ret)
noncomputable abbrev c1 (n : Nat) : XC := d1 n
noncomputable def j1 (n : Nat) (x1 : DPacket) (x3 : Int) : Option Bool :=
  (bif (decide ((1 : Int) ≤ x3)) then (some (decide (x3 ≤ (3 : Int)))) else some false).bind fun g1 =>
  (bif g1 then (some (decide ((0 : Int) < x1.2.2.2.2.1))) else some false).bind fun g2 =>
  (bif g2 then (some (decide ((x1.2.2.2.2.2.1.length : Int) ≤ (16384 : Int)))) else some false).bind fun g3 =>
  some g3
theorem s1 (n : Nat) (x1 : DPacket) (x3 : Int) : ev (c1 n) (Z0 x1 x3) (E []) (retK rs ps r) = j1 n x1 x3 := by kernel_rfl
noncomputable def H1 (n : Nat) (X : XC) : Q := fun st => ghK [.keep [1, 3]] st fun st => ev X st (E []) (retK rs ps r)
noncomputable abbrev K1 (n : Nat) : Q := H1 n (c1 n)
noncomputable def d (n : Nat) (X1 : XC) : XC :=
  (.seq (.reg (.op (.boxv 1 (.t 0)) none <| .op (.mv 2 (.c ⟨.bool, (false : Bool)⟩)) none <| .nil)) <|
  (.seq (.reg (.op (.fa 4 1 1 1) none <| .op (.ld 5 4 1 false) none <| .op (.mv 3 (.t 5)) none <| .nil)) <|
  (.seq (.aft (.seq (.reg (.op (.fa 6 1 0 0) none <| .op (.ld 7 6 1 false) none <| .nil)) <|
  (.block 0 (.seq (.reg (.op (.bin 9 .eql (.t 7) (.c ⟨.int .u8, ((1 : Int) : Int)⟩)) none <| .op (.mv 8 (.t 9)) none <| .nil)) <|
  (.cond (.t 8)
  (.seq (.reg (.op (.fa 10 1 2 2) none <| .op (.ld 11 10 1 false) none <| .op (.bin 12 .neq (.t 11) (.c ⟨.int .u8, ((0 : Int) : Int)⟩)) none <| .nil)) <|
  (.cond (.t 12)
  (.seq (.pre [.keep []] (.reg (.op (.mv 2 (.c ⟨.bool, (false : Bool)⟩)) none <| .nil))) <|
  .ret)
  .skip))
  (.seq (.reg (.op (.bin 14 .eql (.t 7) (.c ⟨.int .u8, ((2 : Int) : Int)⟩)) none <| .op (.mv 13 (.t 14)) none <| .nil)) <|
  (.cond (.t 13)
  (.seq (.seq (.pre [.keep [1]] (.reg (.op (.fa 15 1 1 1) none <| .op (.ld 16 15 1 false) none <| .op (.bin 17 .neq (.t 16) (.c ⟨.int .u8, ((0 : Int) : Int)⟩)) none <| .nil))) <|
  (.cond (.t 17)
  (.seq (.reg (.op (.mv 2 (.c ⟨.bool, (false : Bool)⟩)) none <| .nil)) <|
  .ret)
  .skip)) <|
  (.reg (.op (.fa 18 1 2 2) none <| .op (.ld 19 18 1 false) none <| .op (.mv 3 (.t 19)) none <| .nil)))
  (.seq (.pre [.keep []] (.reg (.op (.mv 2 (.c ⟨.bool, (false : Bool)⟩)) none <| .nil))) <|
  .ret))))))) [.keep [1, 3]]) X1)))
noncomputable abbrev c (n : Nat) : XC := d n (c1 n)
noncomputable def f (n : Nat) (a0 : DPacket) : Option Bool :=
  bif (decide (a0.1 = (1 : Int))) then (bif (!decide (a0.2.2.1 = (0 : Int))) then (some false)
  else (j1 n (a0.1, a0.2.1, a0.2.2.1, a0.2.2.2.1, a0.2.2.2.2.1, a0.2.2.2.2.2.1, a0.2.2.2.2.2.2) a0.2.1))
  else (bif (decide (a0.1 = (2 : Int))) then (bif (!decide (a0.2.1 = (0 : Int))) then (some false)
  else (j1 n (a0.1, a0.2.1, a0.2.2.1, a0.2.2.2.1, a0.2.2.2.2.1, a0.2.2.2.2.2.1, a0.2.2.2.2.2.2) a0.2.2.1))
  else (some false))
theorem w (n : Nat) (a0 : DPacket) (X1 : XC) : evFn (d n X1) rs ps r (a0, ()) =
  (bif (decide (a0.1 = (1 : Int))) then (bif (!decide (a0.2.2.1 = (0 : Int))) then (some false)
  else (ev X1 (Z0 ((a0.1, a0.2.1, a0.2.2.1, a0.2.2.2.1, a0.2.2.2.2.1, a0.2.2.2.2.2.1, a0.2.2.2.2.2.2) : DPacket) a0.2.1) (E []) (retK rs ps r)))
  else (bif (decide (a0.1 = (2 : Int))) then (bif (!decide (a0.2.1 = (0 : Int))) then (some false)
  else (ev X1 (Z0 ((a0.1, a0.2.1, a0.2.2.1, a0.2.2.2.1, a0.2.2.2.2.1, a0.2.2.2.2.2.1, a0.2.2.2.2.2.2) : DPacket) a0.2.2.1) (E []) (retK rs ps r)))
  else (some false)) : Option R) := by kernel_rfl
theorem ok (n : Nat) (a0 : DPacket) : evFn (c n) rs ps r (a0, ()) = f n a0 := (w n a0 (c1 n)).trans (by simp -implicitDefEqProofs only [f, s1 n] <;> kernel_rfl)
noncomputable def sp (n : Nat) : FSpec := { f := 32, ps := ps, r := r, run := fun x => f n x.1 }
theorem calls (n : Nat) : (c n).calls = [] := by kernel_rfl
theorem fits (n : Nat) : fnB tab hd Try.f32 (c n) rs (sp n).ps (sp n).r = true := by kernel_rfl
theorem sound (n : Nat) : Sound Try.prog (sp n) := by
  refine fnB_sound tabOk eqFacts mixed (fn := Try.f32) (c := c n) (rs := rs) (by kernel_rfl) ?_ (fits n) ?_
  · rw [calls]
    intro s hs; cases hs
  · rintro ⟨a0, ⟨⟩⟩ y h
    exact (ok n a0).trans h
theorem meets (n : Nat) : Meets Try.prog (sp n) := (sound n).meets
end frame_Right
/-! (backwater/rpc.past).answer -/
namespace rpc_past_answer
abbrev ps : List (Ty × Bool) := [(Tpast, false), (.int .u8, false)]
abbrev r : Ty := TPacket
abbrev rs : List RV := [.c 4 6 true]
abbrev R : Type := (rtOf ps r).den
abbrev Q : Type := St → Option R
abbrev E (l : List (Nat × Q)) : Ks R := ⟨retK rs ps r, l⟩
noncomputable def d (n : Nat) : XC :=
  (.seq (.reg (.op (.boxv 2 (.t 0)) none <| .op (.alloc 4 ⟨TPacket, (((0 : Int), (0 : Int), (0 : Int), (0 : Int), (0 : Int), ([] : List Int), ()) : DPacket)⟩) none <| .nil)) <|
  (.seq (.reg (.op (.mv 5 (.t 1)) none <| .op (.fa 6 2 1 1) none <| .op (.ld 7 6 1 false) none <| .op (.fa 8 2 2 2) none <| .op (.ld 9 8 1 false) none <| .op (.fa 10 2 3 3) none <| .op (.ld 11 10 1 false) none <| .op (.build 12 ⟨TPacket, (((0 : Int), (0 : Int), (0 : Int), (0 : Int), (0 : Int), ([] : List Int), ()) : DPacket)⟩ [(0, (.c ⟨.int .u8, ((2 : Int) : Int)⟩), false), (2, (.t 5), false), (3, (.t 7), false), (4, (.t 9), false), (5, (.t 11), false)]) none <| .op (.st 4 (.t 12) 6) none <| .nil)) <|
  .ret))
noncomputable abbrev c (n : Nat) : XC := d n
noncomputable def f (n : Nat) (a0 : Dpast) (a1 : Int) : Option DPacket :=
  some ((2 : Int), (0 : Int), a1, a0.2.1, a0.2.2.1, a0.2.2.2.1, ())
theorem ok (n : Nat) (a0 : Dpast) (a1 : Int) : evFn (c n) rs ps r (a0, a1, ()) = f n a0 a1 := by kernel_rfl
noncomputable def sp (n : Nat) : FSpec := { f := 33, ps := ps, r := r, run := fun x => f n x.1 x.2.1 }
theorem calls (n : Nat) : (c n).calls = [] := by kernel_rfl
theorem fits (n : Nat) : fnB tab hd Try.f33 (c n) rs (sp n).ps (sp n).r = true := by kernel_rfl
theorem sound (n : Nat) : Sound Try.prog (sp n) := by
  refine fnB_sound tabOk eqFacts mixed (fn := Try.f33) (c := c n) (rs := rs) (by kernel_rfl) ?_ (fits n) ?_
  · rw [calls]
    intro s hs; cases hs
  · rintro ⟨a0, a1, ⟨⟩⟩ y h
    exact (ok n a0 a1).trans h
theorem meets (n : Nat) : Meets Try.prog (sp n) := (sound n).meets
end rpc_past_answer
/-! (*backwater/rpc.Callee).Take -/
namespace rpc_Callee_Take
abbrev ps : List (Ty × Bool) := [(.opt TCallee, true), (TPacket, false)]
abbrev r : Ty := .tup (.pair .str (.pair .bool (.pair TPacket (.pair .bool .unit))))
abbrev rs : List RV := [.t 4, .t 5, .c 6 6 true, .t 7]
abbrev R : Type := (rtOf ps r).den
abbrev Q : Type := St → Option R
abbrev E (l : List (Nat × Q)) : Ks R := ⟨retK rs ps r, l⟩
noncomputable def d (n : Nat) : XC :=
  (.seq (.reg (.op (.boxv 3 (.t 1)) none <| .op (.mv 4 (.c ⟨.str, (([] : List Int) : List Int)⟩)) none <| .op (.mv 5 (.c ⟨.bool, (false : Bool)⟩)) none <| .op (.alloc 6 ⟨TPacket, (((0 : Int), (0 : Int), (0 : Int), (0 : Int), (0 : Int), ([] : List Int), ()) : DPacket)⟩) none <| .op (.mv 7 (.c ⟨.bool, (false : Bool)⟩)) none <| .nil)) <|
  (.seq (.seq (.pre [.split 0 []] (.reg (.op (.bor 11 0) none <| .op (.eqnil 12 (.t 11) false false) none <| .op (.mv 13 (.t 12)) none <| .grp 13 false (.op (.fa 14 3 0 0) (some ([3, 13, 14], [14])) <| .op (.ld 15 14 1 false) (some ([3, 13, 14, 15], [15])) <| .op (.bin 16 .neq (.t 15) (.c ⟨.int .u8, ((1 : Int) : Int)⟩)) (some ([13, 15, 16], [16])) <| .nil) 16 17 [14, 15, 16] <| .op (.mv 18 (.t 17)) none <| .grp 18 false (.op (.ld 19 3 6 true) (some ([3, 18, 19], [19])) <| .op (.call (some 20) (frame_Right.sp n) [.v (.t 19)]) (some ([18, 19, 20], [20])) <| .op (.un 21 .not (.t 20)) (some ([18, 20, 21], [21])) <| .nil) 21 22 [19, 20, 21] <| .nil))) <|
  (.cond (.t 22)
  (.seq (.regD (.op (.mv 23 (.t 4)) (some ([4, 23], [23])) <| .op (.ld 24 6 6 true) (some ([6, 24], [24])) <| .op (.mv 4 (.t 23)) (some ([4, 23], [4])) <| .op (.mv 5 (.c ⟨.bool, (false : Bool)⟩)) (some ([5], [5])) <| .op (.stS 6 (.t 24) 6) (some ([6, 24], [6])) <| .op (.mv 7 (.c ⟨.bool, (false : Bool)⟩)) (some ([7], [7])) <| .nil)) <|
  .ret)
  .skip)) <|
  (.seq (.regD (.op (.bor 25 0) (some ([0, 25], [25])) <| .op (.fa 26 3 1 1) (some ([3, 26], [26])) <| .op (.ld 27 26 1 false) (some ([3, 26, 27], [27])) <| .op (.bin 28 .sub (.t 27) (.c ⟨.int .u8, ((1 : Int) : Int)⟩)) (some ([27, 28], [28])) <| .op (.nilchk 29 (.t 25)) (some ([0, 25, 29], [29])) <| .op (.fa 30 29 0 0) (some ([0, 29, 30], [30])) <| .op (.idxA 31 (.t 30) (.t 28) 4 3) (some ([0, 28, 30, 31], [31])) <| .op (.bor 8 31) (some ([0, 8, 31], [8])) <| .nil)) <|
  (.seq (.pre [.keep [0, 3, 4, 6, 8]] (.regD (.op (.bor 32 8) (some ([0, 8, 32], [32])) <| .op (.nilchk 33 (.t 32)) (some ([0, 32, 33], [33])) <| .op (.fa 34 33 0 0) (some ([0, 33, 34], [34])) <| .op (.ld 35 34 1 false) (some ([0, 34, 35], [35])) <| .op (.bin 36 .neq (.t 35) (.c ⟨.int .u8, ((0 : Int) : Int)⟩)) (some ([35, 36], [36])) <| .op (.mv 37 (.t 36)) (some ([36, 37], [37])) <| .grp 37 true (.op (.fa 38 3 3 3) (some ([3, 37, 38], [38])) <| .op (.ld 39 38 1 false) (some ([3, 37, 38, 39], [39])) <| .op (.bor 40 8) (some ([0, 8, 37, 40], [40])) <| .op (.nilchk 41 (.t 40)) (some ([0, 37, 40, 41], [41])) <| .op (.fa 42 41 1 1) (some ([0, 37, 41, 42], [42])) <| .op (.ld 43 42 1 false) (some ([0, 37, 42, 43], [43])) <| .op (.bin 44 .eql (.t 39) (.t 43)) (some ([37, 39, 43, 44], [44])) <| .nil) 44 45 [38, 39, 40, 41, 42, 43, 44] <| .op (.mv 46 (.t 45)) (some ([45, 46], [46])) <| .grp 46 true (.op (.fa 47 3 4 4) (some ([3, 46, 47], [47])) <| .op (.ld 48 47 1 false) (some ([3, 46, 47, 48], [48])) <| .op (.bor 49 8) (some ([0, 8, 46, 49], [49])) <| .op (.nilchk 50 (.t 49)) (some ([0, 46, 49, 50], [50])) <| .op (.fa 51 50 2 2) (some ([0, 46, 50, 51], [51])) <| .op (.ld 52 51 1 false) (some ([0, 46, 51, 52], [52])) <| .op (.bin 53 .eql (.t 48) (.t 52)) (some ([46, 48, 52, 53], [53])) <| .nil) 53 54 [47, 48, 49, 50, 51, 52, 53] <| .op (.mv 9 (.t 54)) (some ([9, 54], [9])) <| .nil))) <|
  (.seq (.regD (.op (.bor 55 8) (some ([0, 8, 55], [55])) <| .op (.nilchk 56 (.t 55)) (some ([0, 55, 56], [56])) <| .op (.fa 57 56 0 0) (some ([0, 56, 57], [57])) <| .op (.ld 58 57 1 false) (some ([0, 57, 58], [58])) <| .op (.bin 59 .eql (.t 58) (.c ⟨.int .u8, ((0 : Int) : Int)⟩)) (some ([58, 59], [59])) <| .op (.mv 60 (.t 59)) (some ([59, 60], [60])) <| .grp 60 false (.op (.fa 61 3 3 3) (some ([3, 60, 61], [61])) <| .op (.ld 62 61 1 false) (some ([3, 60, 61, 62], [62])) <| .op (.bor 63 8) (some ([0, 8, 60, 63], [63])) <| .op (.nilchk 64 (.t 63)) (some ([0, 60, 63, 64], [64])) <| .op (.fa 65 64 1 1) (some ([0, 60, 64, 65], [65])) <| .op (.ld 66 65 1 false) (some ([0, 60, 65, 66], [66])) <| .op (.bin 67 .gtr (.t 62) (.t 66)) (some ([60, 62, 66, 67], [67])) <| .nil) 67 68 [61, 62, 63, 64, 65, 66, 67] <| .op (.mv 69 (.t 68)) (some ([68, 69], [69])) <| .grp 69 false (.op (.fa 70 3 3 3) (some ([3, 69, 70], [70])) <| .op (.ld 71 70 1 false) (some ([3, 69, 70, 71], [71])) <| .op (.bor 72 8) (some ([0, 8, 69, 72], [72])) <| .op (.nilchk 73 (.t 72)) (some ([0, 69, 72, 73], [73])) <| .op (.fa 74 73 1 1) (some ([0, 69, 73, 74], [74])) <| .op (.ld 75 74 1 false) (some ([0, 69, 74, 75], [75])) <| .op (.bin 76 .eql (.t 71) (.t 75)) (some ([69, 71, 75, 76], [76])) <| .op (.mv 77 (.t 76)) (some ([69, 76, 77], [77])) <| .grp 77 true (.op (.fa 78 3 4 4) (some ([3, 77, 78], [78])) <| .op (.ld 79 78 1 false) (some ([3, 77, 78, 79], [79])) <| .op (.bor 80 8) (some ([0, 8, 77, 80], [80])) <| .op (.nilchk 81 (.t 80)) (some ([0, 77, 80, 81], [81])) <| .op (.fa 82 81 2 2) (some ([0, 77, 81, 82], [82])) <| .op (.ld 83 82 1 false) (some ([0, 77, 82, 83], [83])) <| .op (.bin 84 .gtr (.t 79) (.t 83)) (some ([77, 79, 83, 84], [84])) <| .nil) 84 85 [78, 79, 80, 81, 82, 83, 84] <| .nil) 85 86 [70, 71, 72, 73, 74, 75, 76, 77, 78, 79, 80, 81, 82, 83, 84, 85] <| .op (.mv 10 (.t 86)) (some ([10, 86], [10])) <| .nil)) <|
  (.seq (.seq (.pre [.keep [0, 3, 4, 6, 8, 9, 10]] (.reg (.op (.mv 87 (.t 10)) none <| .nil))) <|
  (.cond (.t 87)
  (.seq (.reg (.op (.bor 88 8) none <| .op (.fa 89 3 3 3) none <| .op (.ld 90 89 1 false) none <| .op (.fa 91 3 4 4) none <| .op (.ld 92 91 1 false) none <| .op (.build 93 ⟨Tpast, (((0 : Int), (0 : Int), (0 : Int), ([] : List Int), ()) : Dpast)⟩ [(0, (.c ⟨.int .u8, ((1 : Int) : Int)⟩), false), (1, (.t 90), false), (2, (.t 92), false), (3, (.c ⟨.str, (([] : List Int) : List Int)⟩), false)]) none <| .op (.nilchk 94 (.t 88)) none <| .op (.st 94 (.t 93) 4) none <| .nil)) <|
  (.seq (.pre [.keep [0, 3, 6]] (.regD (.op (.fa 95 3 5 5) (some ([3, 95], [95])) <| .op (.ld 96 95 1 false) (some ([3, 95, 96], [96])) <| .op (.ld 97 6 6 true) (some ([6, 97], [97])) <| .op (.mv 4 (.t 96)) (some ([4, 96], [4])) <| .op (.mv 5 (.c ⟨.bool, (true : Bool)⟩)) (some ([5], [5])) <| .op (.stS 6 (.t 97) 6) (some ([6, 97], [6])) <| .op (.mv 7 (.c ⟨.bool, (false : Bool)⟩)) (some ([7], [7])) <| .nil))) <|
  .ret))
  .skip)) <|
  (.seq (.seq (.reg (.op (.mv 98 (.t 9)) none <| .op (.mv 99 (.t 98)) none <| .grp 99 true (.op (.bor 100 8) (some ([0, 8, 99, 100], [100])) <| .op (.nilchk 101 (.t 100)) (some ([0, 99, 100, 101], [101])) <| .op (.fa 102 101 0 0) (some ([0, 99, 101, 102], [102])) <| .op (.ld 103 102 1 false) (some ([0, 99, 102, 103], [103])) <| .op (.bin 104 .eql (.t 103) (.c ⟨.int .u8, ((2 : Int) : Int)⟩)) (some ([99, 103, 104], [104])) <| .nil) 104 105 [100, 101, 102, 103, 104] <| .nil)) <|
  (.cond (.t 105)
  (.seq (.regD (.op (.mv 106 (.t 4)) (some ([4, 106], [106])) <| .op (.bor 107 8) (some ([0, 8, 107], [107])) <| .op (.nilchk 108 (.t 107)) (some ([0, 107, 108], [108])) <| .op (.ld 109 108 4 true) (some ([0, 108, 109], [109])) <| .op (.fa 110 3 1 1) (some ([3, 110], [110])) <| .op (.ld 111 110 1 false) (some ([3, 110, 111], [111])) <| .op (.call (some 112) (rpc_past_answer.sp n) [.v (.t 109), .v (.t 111)]) (some ([109, 111, 112], [112])) <| .op (.mv 4 (.t 106)) (some ([4, 106], [4])) <| .op (.mv 5 (.c ⟨.bool, (false : Bool)⟩)) (some ([5], [5])) <| .op (.stS 6 (.t 112) 6) (some ([6, 112], [6])) <| .op (.mv 7 (.c ⟨.bool, (true : Bool)⟩)) (some ([7], [7])) <| .nil)) <|
  .ret)
  .skip)) <|
  (.seq (.regD (.op (.mv 113 (.t 4)) (some ([4, 113], [113])) <| .op (.ld 114 6 6 true) (some ([6, 114], [114])) <| .op (.mv 4 (.t 113)) (some ([4, 113], [4])) <| .op (.mv 5 (.c ⟨.bool, (false : Bool)⟩)) (some ([5], [5])) <| .op (.stS 6 (.t 114) 6) (some ([6, 114], [6])) <| .op (.mv 7 (.c ⟨.bool, (false : Bool)⟩)) (some ([7], [7])) <| .nil)) <|
  .ret))))))))
noncomputable abbrev c (n : Nat) : XC := d n
noncomputable def f (n : Nat) (a0 : Option DCallee) (a1 : DPacket) : Option ((Option DCallee) × ((List Int) × Bool × DPacket × Bool × Unit)) :=
  optM a0 (some (none, ([] : List Int), false, ((0 : Int), (0 : Int), (0 : Int), (0 : Int), (0 : Int), ([] : List Int), ()), false, ())) fun p1 => (some (!decide (a1.1 = (1 : Int)))).bind fun g2 =>
  (bif g2 then some true else ((frame_Right.f n (a1.1, a1.2.1, a1.2.2.1, a1.2.2.2.1, a1.2.2.2.2.1, a1.2.2.2.2.2.1, a1.2.2.2.2.2.2)).bind fun r4 => some (!r4))).bind fun g3 =>
  bif g3 then (some ((some (p1.1, p1.2)), ([] : List Int), false, ((0 : Int), (0 : Int), (0 : Int), (0 : Int), (0 : Int), ([] : List Int), ()), false, ()))
  else (inK' (IntKind.u8.wrap (a1.2.1 - (1 : Int))) 3 ((lnth p1.1 (IntKind.u8.wrap (a1.2.1 - (1 : Int)))).bind fun e5 => (bif (!decide (e5.1 = (0 : Int))) then ((lnth p1.1 (IntKind.u8.wrap (a1.2.1 - (1 : Int)))).bind fun e7 => some (decide (a1.2.2.2.1 = e7.2.1))) else some false).bind fun g6 =>
  (bif g6 then ((lnth p1.1 (IntKind.u8.wrap (a1.2.1 - (1 : Int)))).bind fun e9 => some (decide (a1.2.2.2.2.1 = e9.2.2.1))) else some false).bind fun g8 =>
  (lnth p1.1 (IntKind.u8.wrap (a1.2.1 - (1 : Int)))).bind fun e10 => (bif (decide (e10.1 = (0 : Int))) then some true else ((lnth p1.1 (IntKind.u8.wrap (a1.2.1 - (1 : Int)))).bind fun e12 => some (decide (e12.2.1 < a1.2.2.2.1)))).bind fun g11 =>
  (bif g11 then some true else ((lnth p1.1 (IntKind.u8.wrap (a1.2.1 - (1 : Int)))).bind fun e14 => (bif (decide (a1.2.2.2.1 = e14.2.1)) then ((lnth p1.1 (IntKind.u8.wrap (a1.2.1 - (1 : Int)))).bind fun e16 => some (decide (e16.2.2.1 < a1.2.2.2.2.1))) else some false).bind fun g15 =>
  some g15)).bind fun g13 =>
  bif g13 then (some ((some ((lset p1.1 (IntKind.u8.wrap (a1.2.1 - (1 : Int))) ((1 : Int), a1.2.2.2.1, a1.2.2.2.2.1, ([] : List Int), ())), p1.2)), a1.2.2.2.2.2.1, true, ((0 : Int), (0 : Int), (0 : Int), (0 : Int), (0 : Int), ([] : List Int), ()), false, ()))
  else ((bif g8 then ((lnth p1.1 (IntKind.u8.wrap (a1.2.1 - (1 : Int)))).bind fun e18 => some (decide (e18.1 = (2 : Int)))) else some false).bind fun g17 =>
  bif g17 then ((lnth p1.1 (IntKind.u8.wrap (a1.2.1 - (1 : Int)))).bind fun e19 => (rpc_past_answer.f n (e19.1, e19.2.1, e19.2.2.1, e19.2.2.2.1, e19.2.2.2.2) a1.2.1).bind fun r20 => some ((some (p1.1, p1.2)), ([] : List Int), false, (r20.1, r20.2.1, r20.2.2.1, r20.2.2.2.1, r20.2.2.2.2.1, r20.2.2.2.2.2.1, r20.2.2.2.2.2.2), true, ()))
  else (some ((some (p1.1, p1.2)), ([] : List Int), false, ((0 : Int), (0 : Int), (0 : Int), (0 : Int), (0 : Int), ([] : List Int), ()), false, ())))))
theorem ok (n : Nat) (a0 : Option DCallee) (a1 : DPacket) : evFn (c n) rs ps r (a0, a1, ()) = f n a0 a1 := by kernel_rfl
noncomputable def sp (n : Nat) : FSpec := { f := 12, ps := ps, r := r, run := fun x => f n x.1 x.2.1 }
theorem calls (n : Nat) : (c n).calls = [frame_Right.sp n, rpc_past_answer.sp n] := by kernel_rfl
theorem fits (n : Nat) : fnB tab hd Try.f12 (c n) rs (sp n).ps (sp n).r = true := by kernel_rfl
theorem sound (n : Nat) : Sound Try.prog (sp n) := by
  refine fnB_sound tabOk eqFacts mixed (fn := Try.f12) (c := c n) (rs := rs) (by kernel_rfl) ?_ (fits n) ?_
  · rw [calls]
    intro s hs
    simp only [List.mem_cons, List.not_mem_nil, or_false] at hs
    rcases hs with rfl | rfl
    · exact frame_Right.meets n
    · exact rpc_past_answer.meets n
  · rintro ⟨a0, a1, ⟨⟩⟩ y h
    exact (ok n a0 a1).trans h
theorem meets (n : Nat) : Meets Try.prog (sp n) := (sound n).meets
end rpc_Callee_Take
/-! (*backwater/rpc.Callee).Reply -/
namespace rpc_Callee_Reply
abbrev ps : List (Ty × Bool) := [(.opt TCallee, true), (.int .u8, false), (.str, false)]
abbrev r : Ty := .tup (.pair TPacket (.pair (.int .i64) .unit))
abbrev rs : List RV := [.c 6 6 true, .t 7]
abbrev R : Type := (rtOf ps r).den
abbrev Q : Type := St → Option R
abbrev E (l : List (Nat × Q)) : Ks R := ⟨retK rs ps r, l⟩
noncomputable def d (n : Nat) : XC :=
  (.seq (.reg (.op (.alloc 6 ⟨TPacket, (((0 : Int), (0 : Int), (0 : Int), (0 : Int), (0 : Int), ([] : List Int), ()) : DPacket)⟩) none <| .op (.mv 7 (.c ⟨.int .i64, ((0 : Int) : Int)⟩)) none <| .nil)) <|
  (.seq (.seq (.pre [.split 0 []] (.reg (.op (.bor 9 0) none <| .op (.eqnil 10 (.t 9) false false) none <| .nil))) <|
  (.cond (.t 10)
  (.seq (.reg (.op (.build 11 ⟨TPacket, (((0 : Int), (0 : Int), (0 : Int), (0 : Int), (0 : Int), ([] : List Int), ()) : DPacket)⟩ []) none <| .op (.st 6 (.t 11) 6) none <| .op (.mv 7 (.c ⟨.int .i64, ((1 : Int) : Int)⟩)) none <| .nil)) <|
  .ret)
  .skip)) <|
  (.seq (.seq (.reg (.op (.mv 12 (.t 1)) none <| .op (.bin 13 .eql (.t 12) (.c ⟨.int .u8, ((0 : Int) : Int)⟩)) none <| .op (.mv 14 (.t 13)) none <| .grp 14 false (.op (.mv 15 (.t 1)) (some ([1, 14, 15], [15])) <| .op (.bin 16 .gtr (.t 15) (.c ⟨.int .u8, ((3 : Int) : Int)⟩)) (some ([14, 15, 16], [16])) <| .nil) 16 17 [15, 16] <| .nil)) <|
  (.cond (.t 17)
  (.seq (.reg (.op (.build 18 ⟨TPacket, (((0 : Int), (0 : Int), (0 : Int), (0 : Int), (0 : Int), ([] : List Int), ()) : DPacket)⟩ []) none <| .op (.st 6 (.t 18) 6) none <| .op (.mv 7 (.c ⟨.int .i64, ((2 : Int) : Int)⟩)) none <| .nil)) <|
  .ret)
  .skip)) <|
  (.seq (.reg (.op (.bor 19 0) none <| .op (.mv 20 (.t 1)) none <| .op (.bin 21 .sub (.t 20) (.c ⟨.int .u8, ((1 : Int) : Int)⟩)) none <| .op (.nilchk 22 (.t 19)) none <| .op (.fa 23 22 0 0) none <| .op (.idxA 24 (.t 23) (.t 21) 4 3) none <| .op (.bor 8 24) none <| .nil)) <|
  (.seq (.seq (.pre [.keep [0, 1, 2, 6, 8]] (.reg (.op (.bor 25 8) none <| .op (.nilchk 26 (.t 25)) none <| .op (.fa 27 26 0 0) none <| .op (.ld 28 27 1 false) none <| .op (.bin 29 .neq (.t 28) (.c ⟨.int .u8, ((1 : Int) : Int)⟩)) none <| .nil))) <|
  (.cond (.t 29)
  (.seq (.reg (.op (.build 30 ⟨TPacket, (((0 : Int), (0 : Int), (0 : Int), (0 : Int), (0 : Int), ([] : List Int), ()) : DPacket)⟩ []) none <| .op (.st 6 (.t 30) 6) none <| .op (.mv 7 (.c ⟨.int .i64, ((5 : Int) : Int)⟩)) none <| .nil)) <|
  .ret)
  .skip)) <|
  (.seq (.seq (.reg (.op (.mv 31 (.t 2)) none <| .op (.len 32 (.t 31) true) none <| .op (.bin 33 .gtr (.t 32) (.c ⟨.int .i64, ((16384 : Int) : Int)⟩)) none <| .nil)) <|
  (.cond (.t 33)
  (.seq (.pre [.keep [0, 6]] (.reg (.op (.build 34 ⟨TPacket, (((0 : Int), (0 : Int), (0 : Int), (0 : Int), (0 : Int), ([] : List Int), ()) : DPacket)⟩ []) none <| .op (.st 6 (.t 34) 6) none <| .op (.mv 7 (.c ⟨.int .i64, ((3 : Int) : Int)⟩)) none <| .nil))) <|
  .ret)
  .skip)) <|
  (.seq (.reg (.op (.bor 35 8) none <| .op (.bor 36 8) none <| .op (.mv 37 (.t 2)) none <| .op (.nilchk 38 (.t 35)) none <| .op (.fa 39 38 0 0) none <| .op (.st 39 (.c ⟨.int .u8, ((2 : Int) : Int)⟩) 1) none <| .op (.nilchk 40 (.t 36)) none <| .op (.fa 41 40 3 3) none <| .op (.st 41 (.t 37) 1) none <| .nil)) <|
  (.seq (.pre [.keep [0, 1, 6, 8]] (.reg (.op (.bor 42 8) none <| .op (.nilchk 43 (.t 42)) none <| .op (.ld 44 43 4 true) none <| .op (.mv 45 (.t 1)) none <| .op (.call (some 46) (rpc_past_answer.sp n) [.v (.t 44), .v (.t 45)]) none <| .op (.st 6 (.t 46) 6) none <| .op (.mv 7 (.c ⟨.int .i64, ((0 : Int) : Int)⟩)) none <| .nil))) <|
  .ret))))))))
noncomputable abbrev c (n : Nat) : XC := d n
noncomputable def f (n : Nat) (a0 : Option DCallee) (a1 : Int) (a2 : List Int) : Option ((Option DCallee) × (DPacket × Int × Unit)) :=
  optM a0 (some (none, ((0 : Int), (0 : Int), (0 : Int), (0 : Int), (0 : Int), ([] : List Int), ()), (1 : Int), ())) fun p1 => (bif (decide (a1 = (0 : Int))) then some true else (some (decide ((3 : Int) < a1)))).bind fun g2 =>
  bif g2 then (some ((some (p1.1, p1.2)), ((0 : Int), (0 : Int), (0 : Int), (0 : Int), (0 : Int), ([] : List Int), ()), (2 : Int), ()))
  else (inK' (IntKind.u8.wrap (a1 - (1 : Int))) 3 ((lnth p1.1 (IntKind.u8.wrap (a1 - (1 : Int)))).bind fun e3 => bif (!decide (e3.1 = (1 : Int))) then (some ((some (p1.1, p1.2)), ((0 : Int), (0 : Int), (0 : Int), (0 : Int), (0 : Int), ([] : List Int), ()), (5 : Int), ()))
  else (bif (decide ((16384 : Int) < (a2.length : Int))) then (some ((some (p1.1, p1.2)), ((0 : Int), (0 : Int), (0 : Int), (0 : Int), (0 : Int), ([] : List Int), ()), (3 : Int), ()))
  else ((lnth p1.1 (IntKind.u8.wrap (a1 - (1 : Int)))).bind fun e4 => (lnth (lset p1.1 (IntKind.u8.wrap (a1 - (1 : Int))) ((2 : Int), e4.2)) (IntKind.u8.wrap (a1 - (1 : Int)))).bind fun e5 => (lnth (lset (lset p1.1 (IntKind.u8.wrap (a1 - (1 : Int))) ((2 : Int), e4.2)) (IntKind.u8.wrap (a1 - (1 : Int))) (e5.1, e5.2.1, e5.2.2.1, a2, e5.2.2.2.2)) (IntKind.u8.wrap (a1 - (1 : Int)))).bind fun e6 => (rpc_past_answer.f n (e6.1, e6.2.1, e6.2.2.1, e6.2.2.2.1, e6.2.2.2.2) a1).bind fun r7 => some ((some ((lset (lset p1.1 (IntKind.u8.wrap (a1 - (1 : Int))) ((2 : Int), e4.2)) (IntKind.u8.wrap (a1 - (1 : Int))) (e5.1, e5.2.1, e5.2.2.1, a2, e5.2.2.2.2)), p1.2)), (r7.1, r7.2.1, r7.2.2.1, r7.2.2.2.1, r7.2.2.2.2.1, r7.2.2.2.2.2.1, r7.2.2.2.2.2.2), (0 : Int), ())))))
theorem ok (n : Nat) (a0 : Option DCallee) (a1 : Int) (a2 : List Int) : evFn (c n) rs ps r (a0, a1, a2, ()) = f n a0 a1 a2 := by kernel_rfl
noncomputable def sp (n : Nat) : FSpec := { f := 20, ps := ps, r := r, run := fun x => f n x.1 x.2.1 x.2.2.1 }
theorem calls (n : Nat) : (c n).calls = [rpc_past_answer.sp n] := by kernel_rfl
theorem fits (n : Nat) : fnB tab hd Try.f20 (c n) rs (sp n).ps (sp n).r = true := by kernel_rfl
theorem sound (n : Nat) : Sound Try.prog (sp n) := by
  refine fnB_sound tabOk eqFacts mixed (fn := Try.f20) (c := c n) (rs := rs) (by kernel_rfl) ?_ (fits n) ?_
  · rw [calls]
    intro s hs
    simp only [List.mem_cons, List.not_mem_nil, or_false] at hs
    rcases hs with rfl
    · exact rpc_past_answer.meets n
  · rintro ⟨a0, a1, a2, ⟨⟩⟩ y h
    exact (ok n a0 a1 a2).trans h
theorem meets (n : Nat) : Meets Try.prog (sp n) := (sound n).meets
end rpc_Callee_Reply
/-! (*backwater/rpc.Caller).Busy -/
namespace rpc_Caller_Busy
abbrev ps : List (Ty × Bool) := [(.oref TCaller, false)]
abbrev r : Ty := .bool
abbrev rs : List RV := [.t 2]
abbrev R : Type := (rtOf ps r).den
abbrev Q : Type := St → Option R
abbrev E (l : List (Nat × Q)) : Ks R := ⟨retK rs ps r, l⟩
noncomputable def d (n : Nat) : XC :=
  (.seq (.reg (.op (.mv 2 (.c ⟨.bool, (false : Bool)⟩)) none <| .nil)) <|
  (.seq (.reg (.op (.mv 3 (.t 0)) none <| .op (.eqnil 4 (.t 3) true false) none <| .op (.mv 5 (.t 4)) none <| .grp 5 true (.op (.mv 6 (.t 0)) (some ([0, 5, 6], [6])) <| .op (.nilchk 7 (.t 6)) (some ([5, 6, 7], [7])) <| .op (.fa 8 7 1 6) (some ([5, 7, 8], [8])) <| .op (.ld 9 8 1 false) (some ([5, 8, 9], [9])) <| .nil) 9 10 [6, 7, 8, 9] <| .op (.mv 2 (.t 10)) none <| .nil)) <|
  .ret))
noncomputable abbrev c (n : Nat) : XC := d n
noncomputable def f (n : Nat) (a0 : Option DCaller) : Option Bool :=
  (bif (Option.isSome a0) then (optM a0 none fun p2 => some p2.2.1) else some false).bind fun g1 =>
  some g1
theorem ok (n : Nat) (a0 : Option DCaller) : evFn (c n) rs ps r (a0, ()) = f n a0 := by kernel_rfl
noncomputable def sp (n : Nat) : FSpec := { f := 18, ps := ps, r := r, run := fun x => f n x.1 }
theorem calls (n : Nat) : (c n).calls = [] := by kernel_rfl
theorem fits (n : Nat) : fnB tab hd Try.f18 (c n) rs (sp n).ps (sp n).r = true := by kernel_rfl
theorem sound (n : Nat) : Sound Try.prog (sp n) := by
  refine fnB_sound tabOk eqFacts mixed (fn := Try.f18) (c := c n) (rs := rs) (by kernel_rfl) ?_ (fits n) ?_
  · rw [calls]
    intro s hs; cases hs
  · rintro ⟨a0, ⟨⟩⟩ y h
    exact (ok n a0).trans h
theorem meets (n : Nat) : Meets Try.prog (sp n) := (sound n).meets
end rpc_Caller_Busy
/-! (*backwater/rpc.Caller).Take -/
namespace rpc_Caller_Take
abbrev ps : List (Ty × Bool) := [(.opt TCaller, true), (TPacket, false)]
abbrev r : Ty := .tup (.pair .str (.pair .bool .unit))
abbrev rs : List RV := [.t 4, .t 5]
abbrev R : Type := (rtOf ps r).den
abbrev Q : Type := St → Option R
abbrev E (l : List (Nat × Q)) : Ks R := ⟨retK rs ps r, l⟩
abbrev Z0 (x0 : Ty.den (.opt TCaller)) (x3 : Ty.den (.box TPacket)) : St := [(0, some ⟨.opt TCaller, x0⟩), (3, some ⟨.box TPacket, x3⟩)]
noncomputable def d1 (n : Nat) : XC :=
  (.seq (.pre [.split 0 []] (.regD (.op (.bor 15 0) (some ([0, 15], [15])) <| .op (.nilchk 16 (.t 15)) (some ([0, 15, 16], [16])) <| .op (.fa 17 16 0 0) (some ([0, 16, 17], [17])) <| .op (.fa 18 17 1 1) (some ([0, 17, 18], [18])) <| .op (.ld 19 18 1 false) (some ([0, 18, 19], [19])) <| .op (.bor 20 0) (some ([0, 20], [20])) <| .op (.nilchk 21 (.t 20)) (some ([0, 20, 21], [21])) <| .op (.fa 22 21 0 0) (some ([0, 21, 22], [22])) <| .op (.fa 23 22 3 3) (some ([0, 22, 23], [23])) <| .op (.ld 24 23 1 false) (some ([0, 23, 24], [24])) <| .op (.bor 25 0) (some ([0, 25], [25])) <| .op (.nilchk 26 (.t 25)) (some ([0, 25, 26], [26])) <| .op (.fa 27 26 0 0) (some ([0, 26, 27], [27])) <| .op (.fa 28 27 4 4) (some ([0, 27, 28], [28])) <| .op (.ld 29 28 1 false) (some ([0, 28, 29], [29])) <| .op (.fa 30 3 5 5) (some ([3, 30], [30])) <| .op (.ld 31 30 1 false) (some ([3, 30, 31], [31])) <| .op (.build 32 ⟨TPacket, (((0 : Int), (0 : Int), (0 : Int), (0 : Int), (0 : Int), ([] : List Int), ()) : DPacket)⟩ [(0, (.c ⟨.int .u8, ((2 : Int) : Int)⟩), false), (2, (.t 19), false), (3, (.t 24), false), (4, (.t 29), false), (5, (.t 31), false)]) (some ([19, 24, 29, 31, 32], [32])) <| .op (.alloc 6 ⟨TPacket, (((0 : Int), (0 : Int), (0 : Int), (0 : Int), (0 : Int), ([] : List Int), ()) : DPacket)⟩) (some ([6], [6])) <| .op (.stS 6 (.t 32) 6) (some ([6, 32], [6])) <| .nil))) <|
  (.seq (.seq (.pre [.keep [0, 3, 6]] (.reg (.op (.ld 33 3 6 true) none <| .op (.ld 34 6 6 true) none <| .op (.eqs 35 true (.t 33) (.t 34) TPacket) none <| .nil))) <|
  (.cond (.t 35)
  (.seq (.reg (.op (.mv 4 (.c ⟨.str, (([] : List Int) : List Int)⟩)) none <| .op (.mv 5 (.c ⟨.bool, (false : Bool)⟩)) none <| .nil)) <|
  .ret)
  .skip)) <|
  (.seq (.reg (.op (.bor 36 0) none <| .op (.nilchk 37 (.t 36)) none <| .op (.fa 38 37 1 6) none <| .op (.st 38 (.c ⟨.bool, (false : Bool)⟩) 1) none <| .nil)) <|
  (.seq (.reg (.op (.fa 39 3 5 5) none <| .op (.ld 40 39 1 false) none <| .op (.mv 4 (.t 40)) none <| .op (.mv 5 (.c ⟨.bool, (true : Bool)⟩)) none <| .nil)) <|
  .ret))))
noncomputable abbrev c1 (n : Nat) : XC := d1 n
noncomputable def j1 (n : Nat) (x0 : Option DCaller) (x3 : DPacket) : Option ((Option DCaller) × ((List Int) × Bool × Unit)) :=
  optM x0 (none) fun p1 => bif (!(eqI x3.1 (2 : Int) && (eqI x3.2.1 (0 : Int) && (eqI x3.2.2.1 p1.1.2.1 && (eqI x3.2.2.2.1 p1.1.2.2.2.1 && (eqI x3.2.2.2.2.1 p1.1.2.2.2.2.1 && (eqS x3.2.2.2.2.2.1 x3.2.2.2.2.2.1 && true))))))) then (some ((some ((p1.1.1, p1.1.2.1, p1.1.2.2.1, p1.1.2.2.2.1, p1.1.2.2.2.2.1, p1.1.2.2.2.2.2.1, p1.1.2.2.2.2.2.2), p1.2.1, p1.2.2.1, p1.2.2.2.1, p1.2.2.2.2)), ([] : List Int), false, ()))
  else (some ((some ((p1.1.1, p1.1.2.1, p1.1.2.2.1, p1.1.2.2.2.1, p1.1.2.2.2.2.1, p1.1.2.2.2.2.2.1, p1.1.2.2.2.2.2.2), false, p1.2.2.1, p1.2.2.2.1, p1.2.2.2.2)), x3.2.2.2.2.2.1, true, ()))
theorem s1 (n : Nat) (x0 : Option DCaller) (x3 : DPacket) : ev (c1 n) (Z0 x0 x3) (E []) (retK rs ps r) = j1 n x0 x3 := by kernel_rfl
noncomputable def H1 (n : Nat) (X : XC) : Q := fun st => ghK [.coe 0 (.opt TCaller), .keep [0, 3]] st fun st => ev X st (E []) (retK rs ps r)
noncomputable abbrev K1 (n : Nat) : Q := H1 n (c1 n)
noncomputable def d (n : Nat) (X1 : XC) : XC :=
  (.seq (.reg (.op (.boxv 3 (.t 1)) none <| .op (.mv 4 (.c ⟨.str, (([] : List Int) : List Int)⟩)) none <| .op (.mv 5 (.c ⟨.bool, (false : Bool)⟩)) none <| .nil)) <|
  (.seq (.aft (.seq (.pre [.split 0 []] (.reg (.op (.bor 7 0) none <| .op (.call (some 8) (rpc_Caller_Busy.sp n) [.r 7]) none <| .op (.un 9 .not (.t 8)) none <| .op (.mv 10 (.t 9)) none <| .grp 10 false (.op (.ld 11 3 6 true) (some ([3, 10, 11], [11])) <| .op (.call (some 12) (frame_Right.sp n) [.v (.t 11)]) (some ([10, 11, 12], [12])) <| .op (.un 13 .not (.t 12)) (some ([10, 12, 13], [13])) <| .nil) 13 14 [11, 12, 13] <| .nil))) <|
  (.cond (.t 14)
  (.seq (.reg (.op (.mv 4 (.c ⟨.str, (([] : List Int) : List Int)⟩)) none <| .op (.mv 5 (.c ⟨.bool, (false : Bool)⟩)) none <| .nil)) <|
  .ret)
  .skip)) [.coe 0 (.opt TCaller), .keep [0, 3]]) X1))
noncomputable abbrev c (n : Nat) : XC := d n (c1 n)
noncomputable def f (n : Nat) (a0 : Option DCaller) (a1 : DPacket) : Option ((Option DCaller) × ((List Int) × Bool × Unit)) :=
  optM a0 ((rpc_Caller_Busy.f n none).bind fun r2 => (bif (!r2) then some true else ((frame_Right.f n (a1.1, a1.2.1, a1.2.2.1, a1.2.2.2.1, a1.2.2.2.2.1, a1.2.2.2.2.2.1, a1.2.2.2.2.2.2)).bind fun r4 => some (!r4))).bind fun g3 =>
  bif g3 then (some (none, ([] : List Int), false, ()))
  else (j1 n none (a1.1, a1.2.1, a1.2.2.1, a1.2.2.2.1, a1.2.2.2.2.1, a1.2.2.2.2.2.1, a1.2.2.2.2.2.2))) fun p1 => (rpc_Caller_Busy.f n (some ((p1.1.1, p1.1.2.1, p1.1.2.2.1, p1.1.2.2.2.1, p1.1.2.2.2.2.1, p1.1.2.2.2.2.2.1, p1.1.2.2.2.2.2.2), p1.2.1, p1.2.2.1, p1.2.2.2.1, p1.2.2.2.2))).bind fun r5 => (bif (!r5) then some true else ((frame_Right.f n (a1.1, a1.2.1, a1.2.2.1, a1.2.2.2.1, a1.2.2.2.2.1, a1.2.2.2.2.2.1, a1.2.2.2.2.2.2)).bind fun r7 => some (!r7))).bind fun g6 =>
  bif g6 then (some ((some ((p1.1.1, p1.1.2.1, p1.1.2.2.1, p1.1.2.2.2.1, p1.1.2.2.2.2.1, p1.1.2.2.2.2.2.1, p1.1.2.2.2.2.2.2), p1.2.1, p1.2.2.1, p1.2.2.2.1, p1.2.2.2.2)), ([] : List Int), false, ()))
  else (j1 n (some ((p1.1.1, p1.1.2.1, p1.1.2.2.1, p1.1.2.2.2.1, p1.1.2.2.2.2.1, p1.1.2.2.2.2.2.1, p1.1.2.2.2.2.2.2), p1.2.1, p1.2.2.1, p1.2.2.2.1, p1.2.2.2.2)) (a1.1, a1.2.1, a1.2.2.1, a1.2.2.2.1, a1.2.2.2.2.1, a1.2.2.2.2.2.1, a1.2.2.2.2.2.2))
theorem w (n : Nat) (a0 : Option DCaller) (a1 : DPacket) (X1 : XC) : evFn (d n X1) rs ps r (a0, a1, ()) =
  (optM a0 ((rpc_Caller_Busy.f n none).bind fun r2 => (bif (!r2) then some true else ((frame_Right.f n (a1.1, a1.2.1, a1.2.2.1, a1.2.2.2.1, a1.2.2.2.2.1, a1.2.2.2.2.2.1, a1.2.2.2.2.2.2)).bind fun r4 => some (!r4))).bind fun g3 =>
  bif g3 then (some (none, ([] : List Int), false, ()))
  else (ev X1 (Z0 (none : Option DCaller) ((a1.1, a1.2.1, a1.2.2.1, a1.2.2.2.1, a1.2.2.2.2.1, a1.2.2.2.2.2.1, a1.2.2.2.2.2.2) : DPacket)) (E []) (retK rs ps r))) fun p1 => (rpc_Caller_Busy.f n (some ((p1.1.1, p1.1.2.1, p1.1.2.2.1, p1.1.2.2.2.1, p1.1.2.2.2.2.1, p1.1.2.2.2.2.2.1, p1.1.2.2.2.2.2.2), p1.2.1, p1.2.2.1, p1.2.2.2.1, p1.2.2.2.2))).bind fun r5 => (bif (!r5) then some true else ((frame_Right.f n (a1.1, a1.2.1, a1.2.2.1, a1.2.2.2.1, a1.2.2.2.2.1, a1.2.2.2.2.2.1, a1.2.2.2.2.2.2)).bind fun r7 => some (!r7))).bind fun g6 =>
  bif g6 then (some ((some ((p1.1.1, p1.1.2.1, p1.1.2.2.1, p1.1.2.2.2.1, p1.1.2.2.2.2.1, p1.1.2.2.2.2.2.1, p1.1.2.2.2.2.2.2), p1.2.1, p1.2.2.1, p1.2.2.2.1, p1.2.2.2.2)), ([] : List Int), false, ()))
  else (ev X1 (Z0 ((some ((p1.1.1, p1.1.2.1, p1.1.2.2.1, p1.1.2.2.2.1, p1.1.2.2.2.2.1, p1.1.2.2.2.2.2.1, p1.1.2.2.2.2.2.2), p1.2.1, p1.2.2.1, p1.2.2.2.1, p1.2.2.2.2)) : Option DCaller) ((a1.1, a1.2.1, a1.2.2.1, a1.2.2.2.1, a1.2.2.2.2.1, a1.2.2.2.2.2.1, a1.2.2.2.2.2.2) : DPacket)) (E []) (retK rs ps r)) : Option R) := by kernel_rfl
theorem ok (n : Nat) (a0 : Option DCaller) (a1 : DPacket) : evFn (c n) rs ps r (a0, a1, ()) = f n a0 a1 := (w n a0 a1 (c1 n)).trans (by simp -implicitDefEqProofs only [f, s1 n] <;> kernel_rfl)
noncomputable def sp (n : Nat) : FSpec := { f := 22, ps := ps, r := r, run := fun x => f n x.1 x.2.1 }
theorem calls (n : Nat) : (c n).calls = [rpc_Caller_Busy.sp n, frame_Right.sp n] := by kernel_rfl
theorem fits (n : Nat) : fnB tab hd Try.f22 (c n) rs (sp n).ps (sp n).r = true := by kernel_rfl
theorem sound (n : Nat) : Sound Try.prog (sp n) := by
  refine fnB_sound tabOk eqFacts mixed (fn := Try.f22) (c := c n) (rs := rs) (by kernel_rfl) ?_ (fits n) ?_
  · rw [calls]
    intro s hs
    simp only [List.mem_cons, List.not_mem_nil, or_false] at hs
    rcases hs with rfl | rfl
    · exact rpc_Caller_Busy.meets n
    · exact frame_Right.meets n
  · rintro ⟨a0, a1, ⟨⟩⟩ y h
    exact (ok n a0 a1).trans h
theorem meets (n : Nat) : Meets Try.prog (sp n) := (sound n).meets
end rpc_Caller_Take
/-! backwater/backwaterlaw11.live -/
namespace law11_live
abbrev ps : List (Ty × Bool) := []
abbrev r : Ty := .bool
abbrev rs : List RV := [.t 0]
abbrev R : Type := (rtOf ps r).den
abbrev Q : Type := St → Option R
abbrev E (l : List (Nat × Q)) : Ks R := ⟨retK rs ps r, l⟩
noncomputable def d (n : Nat) : XC :=
  (.seq (.reg (.op (.mv 0 (.c ⟨.bool, (false : Bool)⟩)) none <| .nil)) <|
  (.seq (.reg (.op (.call (some 14) (rpc_NewCaller.sp n) [.v (.c ⟨.int .u8, ((1 : Int) : Int)⟩), .v (.c ⟨.int .u32, ((7 : Int) : Int)⟩)]) none <| .op (.call (some 15) (rpc_NewCallee.sp n) []) none <| .op (.take 1 14) none <| .op (.take 2 15) none <| .nil)) <|
  (.seq (.pre [.split 1 []] (.reg (.op (.bor 16 1) none <| .op (.call (some 17) (rpc_Caller_Call.sp n) [.l 16, .v (.c ⟨.str, (([120] : List Int) : List Int)⟩)]) none <| .op (.mv 3 (.t 17)) none <| .nil))) <|
  (.seq (.reg (.op (.bor 19 1) none <| .op (.call (some 20) (rpc_Caller_Tick.sp n) [.l 19, .v (.c ⟨.int .u64, ((0 : Int) : Int)⟩)]) none <| .op (.take 18 20) none <| .op (.ext 21 18 0) none <| .op (.ext 22 18 1) none <| .op (.alloc 4 ⟨TPacket, (((0 : Int), (0 : Int), (0 : Int), (0 : Int), (0 : Int), ([] : List Int), ()) : DPacket)⟩) none <| .op (.st 4 (.t 21) 6) none <| .op (.mv 5 (.t 22)) none <| .nil)) <|
  (.seq (.reg (.op (.bor 24 2) none <| .op (.ld 25 4 6 true) none <| .op (.call (some 26) (rpc_Callee_Take.sp n) [.l 24, .v (.t 25)]) none <| .op (.take 23 26) none <| .op (.ext 27 23 0) none <| .op (.ext 28 23 1) none <| .op (.ext 29 23 2) none <| .op (.ext 30 23 3) none <| .op (.alloc 8 ⟨TPacket, (((0 : Int), (0 : Int), (0 : Int), (0 : Int), (0 : Int), ([] : List Int), ()) : DPacket)⟩) none <| .op (.mv 6 (.t 27)) none <| .op (.mv 7 (.t 28)) none <| .op (.st 8 (.t 29) 6) none <| .op (.mv 9 (.t 30)) none <| .nil)) <|
  (.seq (.pre [.keep [1, 2, 3, 5, 6, 7]] (.reg (.op (.bor 32 2) none <| .op (.mv 33 (.t 6)) none <| .op (.bin 34 .add (.t 33) (.c ⟨.str, (([121] : List Int) : List Int)⟩)) none <| .op (.call (some 35) (rpc_Callee_Reply.sp n) [.l 32, .v (.c ⟨.int .u8, ((1 : Int) : Int)⟩), .v (.t 34)]) none <| .op (.take 31 35) none <| .op (.ext 36 31 0) none <| .op (.ext 37 31 1) none <| .op (.alloc 10 ⟨TPacket, (((0 : Int), (0 : Int), (0 : Int), (0 : Int), (0 : Int), ([] : List Int), ()) : DPacket)⟩) none <| .op (.st 10 (.t 36) 6) none <| .op (.mv 11 (.t 37)) none <| .nil))) <|
  (.seq (.reg (.op (.bor 39 1) none <| .op (.ld 40 10 6 true) none <| .op (.call (some 41) (rpc_Caller_Take.sp n) [.l 39, .v (.t 40)]) none <| .op (.take 38 41) none <| .op (.ext 42 38 0) none <| .op (.ext 43 38 1) none <| .op (.mv 12 (.t 42)) none <| .op (.mv 13 (.t 43)) none <| .nil)) <|
  (.seq (.pre [.keep [1, 3, 5, 6, 7, 11, 12, 13]] (.reg (.op (.mv 44 (.t 3)) none <| .op (.bin 45 .eql (.t 44) (.c ⟨.int .i64, ((0 : Int) : Int)⟩)) none <| .op (.mv 46 (.t 45)) none <| .grp 46 true (.op (.mv 47 (.t 5)) (some ([5, 46, 47], [47])) <| .nil) 47 48 [47] <| .op (.mv 49 (.t 48)) none <| .grp 49 true (.op (.mv 50 (.t 7)) (some ([7, 49, 50], [50])) <| .nil) 50 51 [50] <| .op (.mv 52 (.t 51)) none <| .grp 52 true (.op (.mv 53 (.t 6)) (some ([6, 52, 53], [53])) <| .op (.bin 54 .eql (.t 53) (.c ⟨.str, (([120] : List Int) : List Int)⟩)) (some ([52, 53, 54], [54])) <| .nil) 54 55 [53, 54] <| .op (.mv 56 (.t 55)) none <| .grp 56 true (.op (.mv 57 (.t 11)) (some ([11, 56, 57], [57])) <| .op (.bin 58 .eql (.t 57) (.c ⟨.int .i64, ((0 : Int) : Int)⟩)) (some ([56, 57, 58], [58])) <| .nil) 58 59 [57, 58] <| .op (.mv 60 (.t 59)) none <| .grp 60 true (.op (.mv 61 (.t 13)) (some ([13, 60, 61], [61])) <| .nil) 61 62 [61] <| .op (.mv 63 (.t 62)) none <| .grp 63 true (.op (.mv 64 (.t 12)) (some ([12, 63, 64], [64])) <| .op (.bin 65 .eql (.t 64) (.c ⟨.str, (([120, 121] : List Int) : List Int)⟩)) (some ([63, 64, 65], [65])) <| .nil) 65 66 [64, 65] <| .op (.mv 67 (.t 66)) none <| .grp 67 true (.op (.bor 68 1) (some ([1, 67, 68], [68])) <| .op (.call (some 69) (rpc_Caller_Busy.sp n) [.r 68]) (some ([1, 67, 68, 69], [69])) <| .op (.un 70 .not (.t 69)) (some ([67, 69, 70], [70])) <| .nil) 70 71 [68, 69, 70] <| .op (.mv 0 (.t 71)) none <| .nil))) <|
  .ret))))))))
noncomputable abbrev c (n : Nat) : XC := d n
noncomputable def f (n : Nat)  : Option Bool :=
  (rpc_NewCaller.f n (1 : Int) (7 : Int)).bind fun r1 => (rpc_NewCallee.f n).bind fun r2 => optM r1 ((rpc_Caller_Call.f n none ([120] : List Int)).bind fun r4 => (rpc_Caller_Tick.f n none (0 : Int)).bind fun r5 => (rpc_Callee_Take.f n (some (r2.1, r2.2)) (r5.2.1.1, r5.2.1.2.1, r5.2.1.2.2.1, r5.2.1.2.2.2.1, r5.2.1.2.2.2.2.1, r5.2.1.2.2.2.2.2.1, r5.2.1.2.2.2.2.2.2)).bind fun r6 => (r6.1).bind fun p7 => leK (r6.2.1.length + ([121] : List Int).length) maxLen ((rpc_Callee_Reply.f n (some (p7.1, p7.2)) (1 : Int) (r6.2.1 ++ ([121] : List Int))).bind fun r8 => (r8.1).bind fun p9 => (rpc_Caller_Take.f n none (r8.2.1.1, r8.2.1.2.1, r8.2.1.2.2.1, r8.2.1.2.2.2.1, r8.2.1.2.2.2.2.1, r8.2.1.2.2.2.2.2.1, r8.2.1.2.2.2.2.2.2)).bind fun r10 => (bif (decide (r4.2 = (0 : Int))) then (some r5.2.2.1) else some false).bind fun g11 =>
  (bif g11 then (some r6.2.2.1) else some false).bind fun g12 =>
  (bif g12 then (some (decide (r6.2.1 = ([120] : List Int)))) else some false).bind fun g13 =>
  (bif g13 then (some (decide (r8.2.2.1 = (0 : Int)))) else some false).bind fun g14 =>
  (bif g14 then (some r10.2.2.1) else some false).bind fun g15 =>
  (bif g15 then (some (decide (r10.2.1 = ([120, 121] : List Int)))) else some false).bind fun g16 =>
  (bif g16 then ((rpc_Caller_Busy.f n none).bind fun r18 => some (!r18)) else some false).bind fun g17 =>
  some g17)) fun p3 => (rpc_Caller_Call.f n (some ((p3.1.1, p3.1.2.1, p3.1.2.2.1, p3.1.2.2.2.1, p3.1.2.2.2.2.1, p3.1.2.2.2.2.2.1, p3.1.2.2.2.2.2.2), p3.2.1, p3.2.2.1, p3.2.2.2.1, p3.2.2.2.2)) ([120] : List Int)).bind fun r19 => (r19.1).bind fun p20 => (rpc_Caller_Tick.f n (some ((p20.1.1, p20.1.2.1, p20.1.2.2.1, p20.1.2.2.2.1, p20.1.2.2.2.2.1, p20.1.2.2.2.2.2.1, p20.1.2.2.2.2.2.2), p20.2.1, p20.2.2.1, p20.2.2.2.1, p20.2.2.2.2)) (0 : Int)).bind fun r21 => (r21.1).bind fun p22 => (rpc_Callee_Take.f n (some (r2.1, r2.2)) (r21.2.1.1, r21.2.1.2.1, r21.2.1.2.2.1, r21.2.1.2.2.2.1, r21.2.1.2.2.2.2.1, r21.2.1.2.2.2.2.2.1, r21.2.1.2.2.2.2.2.2)).bind fun r23 => (r23.1).bind fun p24 => leK (r23.2.1.length + ([121] : List Int).length) maxLen ((rpc_Callee_Reply.f n (some (p24.1, p24.2)) (1 : Int) (r23.2.1 ++ ([121] : List Int))).bind fun r25 => (r25.1).bind fun p26 => (rpc_Caller_Take.f n (some ((p22.1.1, p22.1.2.1, p22.1.2.2.1, p22.1.2.2.2.1, p22.1.2.2.2.2.1, p22.1.2.2.2.2.2.1, p22.1.2.2.2.2.2.2), p22.2.1, p22.2.2.1, p22.2.2.2.1, p22.2.2.2.2)) (r25.2.1.1, r25.2.1.2.1, r25.2.1.2.2.1, r25.2.1.2.2.2.1, r25.2.1.2.2.2.2.1, r25.2.1.2.2.2.2.2.1, r25.2.1.2.2.2.2.2.2)).bind fun r27 => (r27.1).bind fun p28 => (bif (decide (r19.2 = (0 : Int))) then (some r21.2.2.1) else some false).bind fun g29 =>
  (bif g29 then (some r23.2.2.1) else some false).bind fun g30 =>
  (bif g30 then (some (decide (r23.2.1 = ([120] : List Int)))) else some false).bind fun g31 =>
  (bif g31 then (some (decide (r25.2.2.1 = (0 : Int)))) else some false).bind fun g32 =>
  (bif g32 then (some r27.2.2.1) else some false).bind fun g33 =>
  (bif g33 then (some (decide (r27.2.1 = ([120, 121] : List Int)))) else some false).bind fun g34 =>
  (bif g34 then ((rpc_Caller_Busy.f n (some ((p28.1.1, p28.1.2.1, p28.1.2.2.1, p28.1.2.2.2.1, p28.1.2.2.2.2.1, p28.1.2.2.2.2.2.1, p28.1.2.2.2.2.2.2), p28.2.1, p28.2.2.1, p28.2.2.2.1, p28.2.2.2.2))).bind fun r36 => some (!r36)) else some false).bind fun g35 =>
  some g35)
theorem ok (n : Nat)  : evFn (c n) rs ps r () = f n  := by kernel_rfl
noncomputable def sp (n : Nat) : FSpec := { f := 13, ps := ps, r := r, run := fun x => f n  }
theorem calls (n : Nat) : (c n).calls = [rpc_NewCaller.sp n, rpc_NewCallee.sp n, rpc_Caller_Call.sp n, rpc_Caller_Tick.sp n, rpc_Callee_Take.sp n, rpc_Callee_Reply.sp n, rpc_Caller_Take.sp n, rpc_Caller_Busy.sp n] := by kernel_rfl
theorem fits (n : Nat) : fnB tab hd Try.f13 (c n) rs (sp n).ps (sp n).r = true := by kernel_rfl
theorem sound (n : Nat) : Sound Try.prog (sp n) := by
  refine fnB_sound tabOk eqFacts mixed (fn := Try.f13) (c := c n) (rs := rs) (by kernel_rfl) ?_ (fits n) ?_
  · rw [calls]
    intro s hs
    simp only [List.mem_cons, List.not_mem_nil, or_false] at hs
    rcases hs with rfl | rfl | rfl | rfl | rfl | rfl | rfl | rfl
    · exact rpc_NewCaller.meets n
    · exact rpc_NewCallee.meets n
    · exact rpc_Caller_Call.meets n
    · exact rpc_Caller_Tick.meets n
    · exact rpc_Callee_Take.meets n
    · exact rpc_Callee_Reply.meets n
    · exact rpc_Caller_Take.meets n
    · exact rpc_Caller_Busy.meets n
  · rintro ⟨⟩ y h
    exact (ok n ).trans h
theorem meets (n : Nat) : Meets Try.prog (sp n) := (sound n).meets
end law11_live
/-! backwater/rpc.put -/
namespace rpc_put
abbrev ps : List (Ty × Bool) := [(.slX .U (.int .u8), false), (.int .u32, false)]
abbrev r : Ty := .slX .U (.int .u8)
abbrev rs : List RV := [.t 4]
abbrev R : Type := (rtOf ps r).den
abbrev Q : Type := St → Option R
abbrev E (l : List (Nat × Q)) : Ks R := ⟨retK rs ps r, l⟩
noncomputable def d (n : Nat) : XC :=
  (.seq (.reg (.op (.mv 4 (.c ⟨.nil 0, ()⟩)) none <| .nil)) <|
  (.seq (.reg (.op (.take 5 0) none <| .op (.mv 6 (.t 1)) none <| .op (.bin 7 .shr (.t 6) (.c ⟨.int .u64, ((24 : Int) : Int)⟩)) none <| .op (.cvt 8 (.int .u8) (.t 7)) none <| .op (.mv 9 (.t 1)) none <| .op (.bin 10 .shr (.t 9) (.c ⟨.int .u64, ((16 : Int) : Int)⟩)) none <| .op (.cvt 11 (.int .u8) (.t 10)) none <| .op (.mv 12 (.t 1)) none <| .op (.bin 13 .shr (.t 12) (.c ⟨.int .u64, ((8 : Int) : Int)⟩)) none <| .op (.cvt 14 (.int .u8) (.t 13)) none <| .op (.mv 15 (.t 1)) none <| .op (.cvt 16 (.int .u8) (.t 15)) none <| .op (.bsl 17 (.int .u8) [(.t 8), (.t 11), (.t 14), (.t 16)]) none <| .op (.app 18 5 (.t 17) 1 1) none <| .op (.take 4 18) none <| .nil)) <|
  .ret))
noncomputable abbrev c (n : Nat) : XC := d n
noncomputable def f (n : Nat) (a0 : List Int) (a1 : Int) : Option (List Int) :=
  geK (24 : Int) (geK (16 : Int) (geK (8 : Int) (appK a0.length ([(IntKind.u8.wrap (ishr IntKind.u32 a1 ((24 : Int)).toNat)), (IntKind.u8.wrap (ishr IntKind.u32 a1 ((16 : Int)).toNat)), (IntKind.u8.wrap (ishr IntKind.u32 a1 ((8 : Int)).toNat)), (IntKind.u8.wrap a1)] : List Int).length 1 (some (a0 ++ ([(IntKind.u8.wrap (ishr IntKind.u32 a1 ((24 : Int)).toNat)), (IntKind.u8.wrap (ishr IntKind.u32 a1 ((16 : Int)).toNat)), (IntKind.u8.wrap (ishr IntKind.u32 a1 ((8 : Int)).toNat)), (IntKind.u8.wrap a1)] : List Int))))))
theorem ok (n : Nat) (a0 : List Int) (a1 : Int) : evFn (c n) rs ps r (a0, a1, ()) = f n a0 a1 := by kernel_rfl
noncomputable def sp (n : Nat) : FSpec := { f := 43, ps := ps, r := r, run := fun x => f n x.1 x.2.1 }
theorem calls (n : Nat) : (c n).calls = [] := by kernel_rfl
theorem fits (n : Nat) : fnB tab hd Try.f43 (c n) rs (sp n).ps (sp n).r = true := by kernel_rfl
theorem sound (n : Nat) : Sound Try.prog (sp n) := by
  refine fnB_sound tabOk eqFacts mixed (fn := Try.f43) (c := c n) (rs := rs) (by kernel_rfl) ?_ (fits n) ?_
  · rw [calls]
    intro s hs; cases hs
  · rintro ⟨a0, a1, ⟨⟩⟩ y h
    exact (ok n a0 a1).trans h
theorem meets (n : Nat) : Meets Try.prog (sp n) := (sound n).meets
end rpc_put
/-! (*backwater/rpc.Callee).Bytes -/
namespace rpc_Callee_Bytes
abbrev ps : List (Ty × Bool) := [(.oref TCallee, false)]
abbrev r : Ty := .slX .U (.int .u8)
abbrev rs : List RV := [.t 2]
abbrev R : Type := (rtOf ps r).den
abbrev Q : Type := St → Option R
abbrev E (l : List (Nat × Q)) : Ks R := ⟨retK rs ps r, l⟩
abbrev Z0 (x3 : Ty.den (.slX .U (.int .u8))) : St := [(3, some ⟨.slX .U (.int .u8), x3⟩)]
abbrev Z1 (x3 : Ty.den (.slX .U (.int .u8))) (x11 : Ty.den (.arr 3 Tpast)) (x12 : Ty.den (.int .i64)) : St := [(3, some ⟨.slX .U (.int .u8), x3⟩), (11, some ⟨.arr 3 Tpast, x11⟩), (12, some ⟨.int .i64, x12⟩)]
abbrev Z2 (x3 : Ty.den (.slX .U (.int .u8))) (x5 : Ty.den (.box Tpast)) (x11 : Ty.den (.arr 3 Tpast)) (x12 : Ty.den (.int .i64)) : St := [(3, some ⟨.slX .U (.int .u8), x3⟩), (5, some ⟨.box Tpast, x5⟩), (11, some ⟨.arr 3 Tpast, x11⟩), (12, some ⟨.int .i64, x12⟩)]
noncomputable def d1 (n : Nat) : XC :=
  (.seq (.reg (.op (.take 49 3) none <| .op (.take 2 49) none <| .nil)) <|
  .ret)
noncomputable abbrev c1 (n : Nat) : XC := d1 n
noncomputable def j1 (n : Nat) (x3 : List Int) : Option (List Int) :=
  some x3
theorem s1 (n : Nat) (x3 : List Int) : ev (c1 n) (Z0 x3) (E []) (retK rs ps r) = j1 n x3 := by kernel_rfl
noncomputable def H1 (n : Nat) (X : XC) : Q := fun st => ghK [.keep [3]] st fun st => ev X st (E []) (retK rs ps r)
noncomputable abbrev K1 (n : Nat) : Q := H1 n (c1 n)
noncomputable def Kb2 (Kr2 : Q) : Q := fun st => ghK [.keep [3, 11, 12]] st Kr2
noncomputable def d3 (n : Nat) : XC :=
  (.aft (.reg (.op (.bin 48 .add (.t 12) (.c ⟨.int .i64, ((1 : Int) : Int)⟩)) none <| .op (.mv 12 (.t 48)) none <| .nil)) [.keep [3, 11, 12]])
noncomputable abbrev c3 (n : Nat) : XC := d3 n
theorem qb2_0 (Kr2 : Q) (kr2 : (List Int) → (List Dpast) → Int → Option (List Int)) (hK2 : ∀ (x3 : List Int) (x11 : List Dpast) (x12 : Int), Kr2 (Z1 x3 x11 x12) = kr2 x3 x11 x12) (x3 : List Int) (x11 : List Dpast) (x12 : Int) : Kb2 Kr2 (Z1 x3 x11 x12) = kr2 x3 x11 x12 := (by kernel_rfl : _ = Kr2 (Z1 x3 x11 x12)).trans (hK2 x3 x11 x12)
noncomputable def j3 (n : Nat) (kr2 : (List Int) → (List Dpast) → Int → Option (List Int)) (x3 : List Int) (x11 : List Dpast) (x12 : Int) : Option (List Int) :=
  kr2 x3 x11 (IntKind.i64.wrap (x12 + (1 : Int)))
theorem w3 (n : Nat) (Kr2 : Q) (x3 : List Int) (x11 : List Dpast) (x12 : Int) (K1 : Q) (Kb2 : Q) : ev (d3 n) (Z1 x3 x11 x12) (E [(0, K1)]) Kb2 =
  (Kb2 (Z1 x3 x11 (IntKind.i64.wrap (x12 + (1 : Int)))) : Option R) := by kernel_rfl
theorem s3 (n : Nat) (Kr2 : Q) (kr2 : (List Int) → (List Dpast) → Int → Option (List Int)) (hK2 : ∀ (x3 : List Int) (x11 : List Dpast) (x12 : Int), Kr2 (Z1 x3 x11 x12) = kr2 x3 x11 x12) (x3 : List Int) (x11 : List Dpast) (x12 : Int) : ev (c3 n) (Z1 x3 x11 x12) (E [(0, (K1 n))]) (Kb2 Kr2) = j3 n kr2 x3 x11 x12 := (w3 n Kr2 x3 x11 x12 (K1 n) (Kb2 Kr2)).trans (by simp -implicitDefEqProofs only [j3, qb2_0 Kr2 kr2 hK2] <;> kernel_rfl)
noncomputable def H3 (n : Nat) (K1 : Q) (Kb2 : Q) (X : XC) : Q := fun st => ghK [.keep [3, 11, 12]] st fun st => ev X st (E [(0, K1)]) Kb2
noncomputable abbrev K3 (n : Nat) (Kr2 : Q) : Q := H3 n (K1 n) (Kb2 Kr2) (c3 n)
noncomputable def d4 (n : Nat) : XC :=
  (.aft (.seq (.reg (.op (.fa 30 5 0 0) none <| .op (.ld 31 30 1 false) none <| .op (.bin 32 .eql (.t 31) (.c ⟨.int .u8, ((2 : Int) : Int)⟩)) none <| .nil)) <|
  (.cond (.t 32)
  (.regD (.op (.take 33 3) (some ([3, 33], [3, 33])) <| .op (.fa 34 5 3 3) (some ([5, 34], [34])) <| .op (.ld 35 34 1 false) (some ([5, 34, 35], [35])) <| .op (.len 36 (.t 35) true) (some ([35, 36], [36])) <| .op (.bin 37 .shr (.t 36) (.c ⟨.int .u64, ((8 : Int) : Int)⟩)) (some ([36, 37], [37])) <| .op (.cvt 38 (.int .u8) (.t 37)) (some ([37, 38], [38])) <| .op (.fa 39 5 3 3) (some ([5, 39], [39])) <| .op (.ld 40 39 1 false) (some ([5, 39, 40], [40])) <| .op (.len 41 (.t 40) true) (some ([40, 41], [41])) <| .op (.cvt 42 (.int .u8) (.t 41)) (some ([41, 42], [42])) <| .op (.bsl 43 (.int .u8) [(.t 38), (.t 42)]) (some ([38, 42, 43], [43])) <| .op (.app 44 33 (.t 43) 1 1) (some ([33, 43, 44], [33, 44])) <| .op (.fa 45 5 3 3) (some ([5, 45], [45])) <| .op (.ld 46 45 1 false) (some ([5, 45, 46], [46])) <| .op (.app 47 44 (.t 46) 1 1) (some ([44, 46, 47], [44, 47])) <| .op (.take 3 47) (some ([3, 47], [3, 47])) <| .nil))
  .skip)) [.keep [3, 11, 12]])
noncomputable abbrev c4 (n : Nat) : XC := d4 n
theorem q3_0_r (n : Nat) (Kr2 : Q) (K1 : Q) (Kb2 : Q) (X : XC) (x3 : List Int) (x11 : List Dpast) (x12 : Int) : H3 n K1 Kb2 X (Z1 x3 x11 x12) = (ev X (Z1 x3 x11 x12) (E [(0, K1)]) Kb2 : Option R) := by kernel_rfl
theorem q3_0 (n : Nat) (Kr2 : Q) (kr2 : (List Int) → (List Dpast) → Int → Option (List Int)) (hK2 : ∀ (x3 : List Int) (x11 : List Dpast) (x12 : Int), Kr2 (Z1 x3 x11 x12) = kr2 x3 x11 x12) (x3 : List Int) (x11 : List Dpast) (x12 : Int) : K3 n Kr2 (Z1 x3 x11 x12) = j3 n kr2 x3 x11 x12 := (q3_0_r n Kr2 (K1 n) (Kb2 Kr2) (c3 n) x3 x11 x12).trans (s3 n Kr2 kr2 hK2 x3 x11 x12)
noncomputable def j4 (n : Nat) (kr2 : (List Int) → (List Dpast) → Int → Option (List Int)) (x3 : List Int) (x5 : Dpast) (x11 : List Dpast) (x12 : Int) : Option (List Int) :=
  bif (decide (x5.1 = (2 : Int))) then (geK (8 : Int) (appK x3.length ([(IntKind.u8.wrap (ishr IntKind.i64 (x5.2.2.2.1.length : Int) ((8 : Int)).toNat)), (IntKind.u8.wrap (x5.2.2.2.1.length : Int))] : List Int).length 1 (appK (x3 ++ ([(IntKind.u8.wrap (ishr IntKind.i64 (x5.2.2.2.1.length : Int) ((8 : Int)).toNat)), (IntKind.u8.wrap (x5.2.2.2.1.length : Int))] : List Int)).length x5.2.2.2.1.length 1 (j3 n kr2 ((x3 ++ ([(IntKind.u8.wrap (ishr IntKind.i64 (x5.2.2.2.1.length : Int) ((8 : Int)).toNat)), (IntKind.u8.wrap (x5.2.2.2.1.length : Int))] : List Int)) ++ x5.2.2.2.1) x11 x12))))
  else (j3 n kr2 x3 x11 x12)
theorem w4 (n : Nat) (Kr2 : Q) (x3 : List Int) (x5 : Dpast) (x11 : List Dpast) (x12 : Int) (K3 : Q) (K1 : Q) : ev (d4 n) (Z2 x3 x5 x11 x12) (E [(1, K3), (0, K1)]) K3 =
  (bif (decide (x5.1 = (2 : Int))) then (geK (8 : Int) (appK x3.length ([(IntKind.u8.wrap (ishr IntKind.i64 (x5.2.2.2.1.length : Int) ((8 : Int)).toNat)), (IntKind.u8.wrap (x5.2.2.2.1.length : Int))] : List Int).length 1 (appK (x3 ++ ([(IntKind.u8.wrap (ishr IntKind.i64 (x5.2.2.2.1.length : Int) ((8 : Int)).toNat)), (IntKind.u8.wrap (x5.2.2.2.1.length : Int))] : List Int)).length x5.2.2.2.1.length 1 (K3 (Z1 (((x3 ++ ([(IntKind.u8.wrap (ishr IntKind.i64 (x5.2.2.2.1.length : Int) ((8 : Int)).toNat)), (IntKind.u8.wrap (x5.2.2.2.1.length : Int))] : List Int)) ++ x5.2.2.2.1) : List Int) x11 x12)))))
  else (K3 (Z1 x3 x11 x12)) : Option R) := by kernel_rfl
theorem s4 (n : Nat) (Kr2 : Q) (kr2 : (List Int) → (List Dpast) → Int → Option (List Int)) (hK2 : ∀ (x3 : List Int) (x11 : List Dpast) (x12 : Int), Kr2 (Z1 x3 x11 x12) = kr2 x3 x11 x12) (x3 : List Int) (x5 : Dpast) (x11 : List Dpast) (x12 : Int) : ev (c4 n) (Z2 x3 x5 x11 x12) (E [(1, (K3 n Kr2)), (0, (K1 n))]) (K3 n Kr2) = j4 n kr2 x3 x5 x11 x12 := (w4 n Kr2 x3 x5 x11 x12 (K3 n Kr2) (K1 n)).trans (by simp -implicitDefEqProofs only [j4, q3_0 n Kr2 kr2 hK2] <;> kernel_rfl)
noncomputable def H4 (n : Nat) (K3 : Q) (K1 : Q) (X : XC) : Q := fun st => ghK [.keep [3, 5, 11, 12]] st fun st => ev X st (E [(1, K3), (0, K1)]) K3
noncomputable abbrev K4 (n : Nat) (Kr2 : Q) : Q := H4 n (K3 n Kr2) (K1 n) (c4 n)
noncomputable def db2 (n : Nat) (X3 X4 : XC) : XC :=
  (.aft (.seq (.reg (.op (.bin 13 .lss (.t 12) (.c ⟨.int .i64, ((3 : Int) : Int)⟩)) none <| .nil)) <|
  (.seq (.cond (.t 13)
  .skip
  (.pre [.keep [3]] (.exit 0))) <|
  (.seq (.aft (.block 1 (.seq (.reg (.op (.idx 14 (.t 11) (.t 12) 4 true 3) none <| .op (.alloc 5 ⟨Tpast, (((0 : Int), (0 : Int), (0 : Int), ([] : List Int), ()) : Dpast)⟩) none <| .op (.st 5 (.t 14) 4) none <| .nil)) <|
  (.seq (.reg (.op (.take 15 3) none <| .op (.fa 16 5 0 0) none <| .op (.ld 17 16 1 false) none <| .op (.bsl 18 (.int .u8) [(.t 17)]) none <| .op (.app 19 15 (.t 18) 1 1) none <| .op (.take 3 19) none <| .nil)) <|
  (.seq (.aft (.seq (.reg (.op (.fa 20 5 0 0) none <| .op (.ld 21 20 1 false) none <| .op (.bin 22 .neq (.t 21) (.c ⟨.int .u8, ((0 : Int) : Int)⟩)) none <| .nil)) <|
  (.cond (.t 22)
  (.regD (.op (.take 23 3) (some ([3, 23], [3, 23])) <| .op (.fa 24 5 1 1) (some ([5, 24], [24])) <| .op (.ld 25 24 1 false) (some ([5, 24, 25], [25])) <| .op (.call (some 26) (rpc_put.sp n) [.k 23, .v (.t 25)]) (some ([23, 25, 26], [23, 26])) <| .op (.fa 27 5 2 2) (some ([5, 27], [27])) <| .op (.ld 28 27 1 false) (some ([5, 27, 28], [28])) <| .op (.call (some 29) (rpc_put.sp n) [.k 26, .v (.t 28)]) (some ([26, 28, 29], [26, 29])) <| .op (.take 3 29) (some ([3, 29], [3, 29])) <| .nil))
  .skip)) [.keep [3, 5, 11, 12]]) X4)))) [.keep [3, 11, 12]]) X3))) [.keep [3, 11, 12]])
noncomputable abbrev cb2 (n : Nat) : XC := db2 n (c3 n) (c4 n)
theorem q1_0_r (n : Nat) (X : XC) (x3 : List Int) : H1 n X (Z0 x3) = (ev X (Z0 x3) (E []) (retK rs ps r) : Option R) := by kernel_rfl
theorem q1_0 (n : Nat) (x3 : List Int) : K1 n (Z0 x3) = j1 n x3 := (q1_0_r n (c1 n) x3).trans (s1 n x3)
noncomputable def l2 (n : Nat) : Nat → (List Int) → (List Dpast) → Int → Option (List Int)
  | 0, _, _, _ => none
  | k + 1, x3, x11, x12 =>
  bif (decide (x12 < (3 : Int))) then (idxK x11 x12 fun e1 => appK x3.length ([e1.1] : List Int).length 1 (bif (!decide (e1.1 = (0 : Int))) then ((rpc_put.f n (x3 ++ ([e1.1] : List Int)) e1.2.1).bind fun r2 => (rpc_put.f n r2 e1.2.2.1).bind fun r3 => j4 n (l2 n k) r3 (e1.1, e1.2.1, e1.2.2.1, e1.2.2.2.1, e1.2.2.2.2) x11 x12)
  else (j4 n (l2 n k) (x3 ++ ([e1.1] : List Int)) (e1.1, e1.2.1, e1.2.2.1, e1.2.2.2.1, e1.2.2.2.2) x11 x12)))
  else (j1 n x3)
theorem wb2 (n : Nat) (Kr2 : Q) (x3 : List Int) (x11 : List Dpast) (x12 : Int) (K1 : Q) (X3 X4 : XC) : ev (db2 n X3 X4) (keepSt (Z1 x3 x11 x12) [3, 11, 12]) (E [(0, K1)]) Kr2 =
  (bif (decide (x12 < (3 : Int))) then (idxK x11 x12 fun e1 => appK x3.length ([e1.1] : List Int).length 1 (bif (!decide (e1.1 = (0 : Int))) then ((rpc_put.f n (x3 ++ ([e1.1] : List Int)) e1.2.1).bind fun r2 => (rpc_put.f n r2 e1.2.2.1).bind fun r3 => ev X4 (Z2 r3 ((e1.1, e1.2.1, e1.2.2.1, e1.2.2.2.1, e1.2.2.2.2) : Dpast) x11 x12) (E [(1, (H3 n K1 (Kb2 Kr2) X3)), (0, K1)]) (H3 n K1 (Kb2 Kr2) X3))
  else (ev X4 (Z2 ((x3 ++ ([e1.1] : List Int)) : List Int) ((e1.1, e1.2.1, e1.2.2.1, e1.2.2.2.1, e1.2.2.2.2) : Dpast) x11 x12) (E [(1, (H3 n K1 (Kb2 Kr2) X3)), (0, K1)]) (H3 n K1 (Kb2 Kr2) X3))))
  else (K1 (Z0 x3)) : Option R) := by kernel_rfl
theorem l2_ok (n : Nat) (k : Nat) : ∀ (x3 : List Int) (x11 : List Dpast) (x12 : Int), loopEv [3, 11, 12] (fun s K => ev (cb2 n) s (E [(0, (K1 n))]) K) k (Z1 x3 x11 x12) = l2 n k x3 x11 x12 := by
  induction k with
  | zero => intros; rfl
  | succ k ih =>
    intro x3 x11 x12
    exact (wb2 n (fun st => loopEv [3, 11, 12] (fun s K => ev (cb2 n) s (E [(0, (K1 n))]) K) k st) x3 x11 x12 (K1 n) (c3 n) (c4 n)).trans (by simp -implicitDefEqProofs only [l2, s4 n (fun st => loopEv [3, 11, 12] (fun s K => ev (cb2 n) s (E [(0, (K1 n))]) K) k st) (l2 n k) ih, q1_0 n] <;> kernel_rfl)
noncomputable def d (n : Nat) (X1 Y2 : XC) : XC :=
  (.seq (.reg (.op (.mv 2 (.c ⟨.nil 0, ()⟩)) none <| .nil)) <|
  (.seq (.seq (.reg (.op (.mv 6 (.t 0)) none <| .op (.eqnil 7 (.t 6) false false) none <| .nil)) <|
  (.cond (.t 7)
  (.seq (.reg (.op (.mv 2 (.c ⟨.nil 0, ()⟩)) none <| .nil)) <|
  .ret)
  .skip)) <|
  (.seq (.reg (.op (.mv 3 (.c ⟨.nil 0, ()⟩)) none <| .nil)) <|
  (.seq (.aft (.seq (.reg (.op (.mv 8 (.t 0)) none <| .op (.nilchk 9 (.t 8)) none <| .op (.fa 10 9 0 0) none <| .op (.ld 11 10 12 true) none <| .op (.mv 12 (.c ⟨.int .i64, ((0 : Int) : Int)⟩)) none <| .nil)) <|
  (.block 0 (.pre [.coe 3 (.slX .U (.int .u8)), .keep [3, 11, 12]] (.loop n [3, 11, 12] Y2)))) [.keep [3]]) X1))))
noncomputable abbrev c (n : Nat) : XC := d n (c1 n) (cb2 n)
noncomputable def f (n : Nat) (a0 : Option DCallee) : Option (List Int) :=
  bif (Option.isNone a0) then (some ([] : List Int))
  else (optM a0 none fun p1 => l2 n n ([] : List Int) p1.1 (0 : Int))
theorem w (n : Nat) (a0 : Option DCallee) (X1 Y2 : XC) : evFn (d n X1 Y2) rs ps r (a0, ()) =
  (bif (Option.isNone a0) then (some ([] : List Int))
  else (optM a0 none fun p1 => loopEv [3, 11, 12] (fun s K => ev Y2 s (E [(0, (H1 n X1))]) K) n (Z1 (([] : List Int) : List Int) p1.1 (0 : Int))) : Option R) := by kernel_rfl
theorem ok (n : Nat) (a0 : Option DCallee) : evFn (c n) rs ps r (a0, ()) = f n a0 := (w n a0 (c1 n) (cb2 n)).trans (by simp -implicitDefEqProofs only [f, l2_ok n] <;> kernel_rfl)
noncomputable def sp (n : Nat) : FSpec := { f := 28, ps := ps, r := r, run := fun x => f n x.1 }
theorem calls (n : Nat) : (c n).calls = [rpc_put.sp n, rpc_put.sp n] := by kernel_rfl
theorem fits (n : Nat) : fnB tab hd Try.f28 (c n) rs (sp n).ps (sp n).r = true := by kernel_rfl
theorem sound (n : Nat) : Sound Try.prog (sp n) := by
  refine fnB_sound tabOk eqFacts mixed (fn := Try.f28) (c := c n) (rs := rs) (by kernel_rfl) ?_ (fits n) ?_
  · rw [calls]
    intro s hs
    simp only [List.mem_cons, List.not_mem_nil, or_false] at hs
    rcases hs with rfl | rfl
    · exact rpc_put.meets n
    · exact rpc_put.meets n
  · rintro ⟨a0, ⟨⟩⟩ y h
    exact (ok n a0).trans h
theorem meets (n : Nat) : Meets Try.prog (sp n) := (sound n).meets
end rpc_Callee_Bytes
/-! backwater/backwaterref03.Right -/
namespace r03_Right
abbrev ps : List (Ty × Bool) := [(TPacket, false)]
abbrev r : Ty := .bool
abbrev rs : List RV := [.t 2]
abbrev R : Type := (rtOf ps r).den
abbrev Q : Type := St → Option R
abbrev E (l : List (Nat × Q)) : Ks R := ⟨retK rs ps r, l⟩
noncomputable def d (n : Nat) : XC :=
  (.seq (.reg (.op (.boxv 1 (.t 0)) none <| .op (.mv 2 (.c ⟨.bool, (false : Bool)⟩)) none <| .nil)) <|
  (.seq (.seq (.reg (.op (.fa 3 1 1 1) none <| .op (.ld 4 3 1 false) none <| .op (.bin 5 .gtr (.t 4) (.c ⟨.int .u8, ((3 : Int) : Int)⟩)) none <| .op (.mv 6 (.t 5)) none <| .grp 6 false (.op (.fa 7 1 2 2) (some ([1, 6, 7], [7])) <| .op (.ld 8 7 1 false) (some ([1, 6, 7, 8], [8])) <| .op (.bin 9 .gtr (.t 8) (.c ⟨.int .u8, ((3 : Int) : Int)⟩)) (some ([6, 8, 9], [9])) <| .nil) 9 10 [7, 8, 9] <| .op (.mv 11 (.t 10)) none <| .grp 11 false (.op (.fa 12 1 4 4) (some ([1, 11, 12], [12])) <| .op (.ld 13 12 1 false) (some ([1, 11, 12, 13], [13])) <| .op (.bin 14 .eql (.t 13) (.c ⟨.int .u32, ((0 : Int) : Int)⟩)) (some ([11, 13, 14], [14])) <| .nil) 14 15 [12, 13, 14] <| .op (.mv 16 (.t 15)) none <| .grp 16 false (.op (.fa 17 1 5 5) (some ([1, 16, 17], [17])) <| .op (.ld 18 17 1 false) (some ([1, 16, 17, 18], [18])) <| .op (.len 19 (.t 18) true) (some ([16, 18, 19], [19])) <| .op (.bin 20 .gtr (.t 19) (.c ⟨.int .i64, ((16384 : Int) : Int)⟩)) (some ([16, 19, 20], [20])) <| .nil) 20 21 [17, 18, 19, 20] <| .nil)) <|
  (.cond (.t 21)
  (.seq (.pre [.keep []] (.reg (.op (.mv 2 (.c ⟨.bool, (false : Bool)⟩)) none <| .nil))) <|
  .ret)
  .skip)) <|
  (.seq (.pre [.keep [1]] (.reg (.op (.fa 22 1 0 0) none <| .op (.ld 23 22 1 false) none <| .op (.bin 24 .eql (.t 23) (.c ⟨.int .u8, ((1 : Int) : Int)⟩)) none <| .op (.mv 25 (.t 24)) none <| .grp 25 true (.op (.fa 26 1 2 2) (some ([1, 25, 26], [26])) <| .op (.ld 27 26 1 false) (some ([1, 25, 26, 27], [27])) <| .op (.bin 28 .eql (.t 27) (.c ⟨.int .u8, ((0 : Int) : Int)⟩)) (some ([25, 27, 28], [28])) <| .nil) 28 29 [26, 27, 28] <| .op (.mv 30 (.t 29)) none <| .grp 30 true (.op (.fa 31 1 1 1) (some ([1, 30, 31], [31])) <| .op (.ld 32 31 1 false) (some ([1, 30, 31, 32], [32])) <| .op (.bin 33 .neq (.t 32) (.c ⟨.int .u8, ((0 : Int) : Int)⟩)) (some ([30, 32, 33], [33])) <| .nil) 33 34 [31, 32, 33] <| .op (.mv 35 (.t 34)) none <| .grp 35 false (.op (.fa 36 1 0 0) (some ([1, 35, 36], [36])) <| .op (.ld 37 36 1 false) (some ([1, 35, 36, 37], [37])) <| .op (.bin 38 .eql (.t 37) (.c ⟨.int .u8, ((2 : Int) : Int)⟩)) (some ([35, 37, 38], [38])) <| .op (.mv 39 (.t 38)) (some ([35, 38, 39], [39])) <| .grp 39 true (.op (.fa 40 1 1 1) (some ([1, 39, 40], [40])) <| .op (.ld 41 40 1 false) (some ([1, 39, 40, 41], [41])) <| .op (.bin 42 .eql (.t 41) (.c ⟨.int .u8, ((0 : Int) : Int)⟩)) (some ([39, 41, 42], [42])) <| .nil) 42 43 [40, 41, 42] <| .op (.mv 44 (.t 43)) (some ([35, 43, 44], [44])) <| .grp 44 true (.op (.fa 45 1 2 2) (some ([1, 44, 45], [45])) <| .op (.ld 46 45 1 false) (some ([1, 44, 45, 46], [46])) <| .op (.bin 47 .neq (.t 46) (.c ⟨.int .u8, ((0 : Int) : Int)⟩)) (some ([44, 46, 47], [47])) <| .nil) 47 48 [45, 46, 47] <| .nil) 48 49 [36, 37, 38, 39, 40, 41, 42, 43, 44, 45, 46, 47, 48] <| .op (.mv 2 (.t 49)) none <| .nil))) <|
  .ret)))
noncomputable abbrev c (n : Nat) : XC := d n
noncomputable def f (n : Nat) (a0 : DPacket) : Option Bool :=
  (bif (decide ((3 : Int) < a0.2.1)) then some true else (some (decide ((3 : Int) < a0.2.2.1)))).bind fun g1 =>
  (bif g1 then some true else (some (decide (a0.2.2.2.2.1 = (0 : Int))))).bind fun g2 =>
  (bif g2 then some true else (some (decide ((16384 : Int) < (a0.2.2.2.2.2.1.length : Int))))).bind fun g3 =>
  bif g3 then (some false)
  else ((bif (decide (a0.1 = (1 : Int))) then (some (decide (a0.2.2.1 = (0 : Int)))) else some false).bind fun g4 =>
  (bif g4 then (some (!decide (a0.2.1 = (0 : Int)))) else some false).bind fun g5 =>
  (bif g5 then some true else ((bif (decide (a0.1 = (2 : Int))) then (some (decide (a0.2.1 = (0 : Int)))) else some false).bind fun g7 =>
  (bif g7 then (some (!decide (a0.2.2.1 = (0 : Int)))) else some false).bind fun g8 =>
  some g8)).bind fun g6 =>
  some g6)
theorem ok (n : Nat) (a0 : DPacket) : evFn (c n) rs ps r (a0, ()) = f n a0 := by kernel_rfl
noncomputable def sp (n : Nat) : FSpec := { f := 47, ps := ps, r := r, run := fun x => f n x.1 }
theorem calls (n : Nat) : (c n).calls = [] := by kernel_rfl
theorem fits (n : Nat) : fnB tab hd Try.f47 (c n) rs (sp n).ps (sp n).r = true := by kernel_rfl
theorem sound (n : Nat) : Sound Try.prog (sp n) := by
  refine fnB_sound tabOk eqFacts mixed (fn := Try.f47) (c := c n) (rs := rs) (by kernel_rfl) ?_ (fits n) ?_
  · rw [calls]
    intro s hs; cases hs
  · rintro ⟨a0, ⟨⟩⟩ y h
    exact (ok n a0).trans h
theorem meets (n : Nat) : Meets Try.prog (sp n) := (sound n).meets
end r03_Right
/-! (*backwater/backwaterref11.Callee).answer -/
namespace r11_Callee_answer
abbrev ps : List (Ty × Bool) := [(.cref TCallee', false), (.int .u8, false)]
abbrev r : Ty := TPacket
abbrev rs : List RV := [.c 4 6 true]
abbrev R : Type := (rtOf ps r).den
abbrev Q : Type := St → Option R
abbrev E (l : List (Nat × Q)) : Ks R := ⟨retK rs ps r, l⟩
noncomputable def d (n : Nat) : XC :=
  (.seq (.reg (.op (.alloc 4 ⟨TPacket, (((0 : Int), (0 : Int), (0 : Int), (0 : Int), (0 : Int), ([] : List Int), ()) : DPacket)⟩) none <| .nil)) <|
  (.seq (.reg (.op (.mv 6 (.t 0)) none <| .op (.mv 7 (.t 1)) none <| .op (.nilchk 8 (.t 6)) none <| .op (.fa 9 8 0 0) none <| .op (.idxA 10 (.t 9) (.t 7) 4 4) none <| .op (.ld 11 10 4 true) none <| .op (.alloc 5 ⟨Ttaken, (((0 : Int), (0 : Int), (0 : Int), ([] : List Int), ()) : Dtaken)⟩) none <| .op (.st 5 (.t 11) 4) none <| .nil)) <|
  (.seq (.reg (.op (.mv 12 (.t 1)) none <| .op (.fa 13 5 1 1) none <| .op (.ld 14 13 1 false) none <| .op (.fa 15 5 2 2) none <| .op (.ld 16 15 1 false) none <| .op (.fa 17 5 3 3) none <| .op (.ld 18 17 1 false) none <| .op (.build 19 ⟨TPacket, (((0 : Int), (0 : Int), (0 : Int), (0 : Int), (0 : Int), ([] : List Int), ()) : DPacket)⟩ [(0, (.c ⟨.int .u8, ((2 : Int) : Int)⟩), false), (2, (.t 12), false), (3, (.t 14), false), (4, (.t 16), false), (5, (.t 18), false)]) none <| .op (.st 4 (.t 19) 6) none <| .nil)) <|
  .ret)))
noncomputable abbrev c (n : Nat) : XC := d n
noncomputable def f (n : Nat) (a0 : DCallee') (a1 : Int) : Option DPacket :=
  idxK a0.1 a1 fun e1 => some ((2 : Int), (0 : Int), a1, e1.2.1, e1.2.2.1, e1.2.2.2.1, ())
theorem ok (n : Nat) (a0 : DCallee') (a1 : Int) : evFn (c n) rs ps r (a0, a1, ()) = f n a0 a1 := by kernel_rfl
noncomputable def sp (n : Nat) : FSpec := { f := 48, ps := ps, r := r, run := fun x => f n x.1 x.2.1 }
theorem calls (n : Nat) : (c n).calls = [] := by kernel_rfl
theorem fits (n : Nat) : fnB tab hd Try.f48 (c n) rs (sp n).ps (sp n).r = true := by kernel_rfl
theorem sound (n : Nat) : Sound Try.prog (sp n) := by
  refine fnB_sound tabOk eqFacts mixed (fn := Try.f48) (c := c n) (rs := rs) (by kernel_rfl) ?_ (fits n) ?_
  · rw [calls]
    intro s hs; cases hs
  · rintro ⟨a0, a1, ⟨⟩⟩ y h
    exact (ok n a0 a1).trans h
theorem meets (n : Nat) : Meets Try.prog (sp n) := (sound n).meets
end r11_Callee_answer
/-! (*backwater/backwaterref11.Callee).Take -/
namespace r11_Callee_Take
abbrev ps : List (Ty × Bool) := [(.opt TCallee', true), (TPacket, false)]
abbrev r : Ty := .tup (.pair .str (.pair .bool (.pair TPacket (.pair .bool .unit))))
abbrev rs : List RV := [.t 4, .t 5, .c 6 6 true, .t 7]
abbrev R : Type := (rtOf ps r).den
abbrev Q : Type := St → Option R
abbrev E (l : List (Nat × Q)) : Ks R := ⟨retK rs ps r, l⟩
noncomputable def d1 (n : Nat) : XC :=
  (.seq (.reg (.op (.build 90 ⟨TPacket, (((0 : Int), (0 : Int), (0 : Int), (0 : Int), (0 : Int), ([] : List Int), ()) : DPacket)⟩ []) none <| .op (.mv 4 (.c ⟨.str, (([] : List Int) : List Int)⟩)) none <| .op (.mv 5 (.c ⟨.bool, (false : Bool)⟩)) none <| .op (.st 6 (.t 90) 6) none <| .op (.mv 7 (.c ⟨.bool, (false : Bool)⟩)) none <| .nil)) <|
  .ret)
noncomputable abbrev c1 (n : Nat) : XC := d1 n
noncomputable def j1 (n : Nat) (x0 : DCallee') (x6 : DPacket) : Option ((Option DCallee') × ((List Int) × Bool × DPacket × Bool × Unit)) :=
  some ((some (x0.1, x0.2)), ([] : List Int), false, ((0 : Int), (0 : Int), (0 : Int), (0 : Int), (0 : Int), ([] : List Int), ()), false, ())
theorem s1 (n : Nat) (x0 : DCallee') (x6 : DPacket) : ev (c1 n) [(0, some ⟨.box TCallee', x0⟩), (6, some ⟨.box TPacket, x6⟩)] (E []) (retK rs ps r) = j1 n x0 x6 := by kernel_rfl
noncomputable def H1 (n : Nat) (X : XC) : Q := fun st => ghK [.keep [0, 6]] st fun st => ev X st (E []) (retK rs ps r)
noncomputable abbrev K1 (n : Nat) : Q := H1 n (c1 n)
noncomputable def d (n : Nat) (X1 : XC) : XC :=
  (.seq (.reg (.op (.boxv 3 (.t 1)) none <| .op (.mv 4 (.c ⟨.str, (([] : List Int) : List Int)⟩)) none <| .op (.mv 5 (.c ⟨.bool, (false : Bool)⟩)) none <| .op (.alloc 6 ⟨TPacket, (((0 : Int), (0 : Int), (0 : Int), (0 : Int), (0 : Int), ([] : List Int), ()) : DPacket)⟩) none <| .op (.mv 7 (.c ⟨.bool, (false : Bool)⟩)) none <| .nil)) <|
  (.seq (.seq (.pre [.split 0 []] (.reg (.op (.bor 9 0) none <| .op (.eqnil 10 (.t 9) false false) none <| .op (.mv 11 (.t 10)) none <| .grp 11 false (.op (.ld 12 3 6 true) (some ([3, 11, 12], [12])) <| .op (.call (some 13) (r03_Right.sp n) [.v (.t 12)]) (some ([11, 12, 13], [13])) <| .op (.un 14 .not (.t 13)) (some ([11, 13, 14], [14])) <| .nil) 14 15 [12, 13, 14] <| .op (.mv 16 (.t 15)) none <| .grp 16 false (.op (.fa 17 3 0 0) (some ([3, 16, 17], [17])) <| .op (.ld 18 17 1 false) (some ([3, 16, 17, 18], [18])) <| .op (.bin 19 .neq (.t 18) (.c ⟨.int .u8, ((1 : Int) : Int)⟩)) (some ([16, 18, 19], [19])) <| .nil) 19 20 [17, 18, 19] <| .nil))) <|
  (.cond (.t 20)
  (.seq (.pre [.keep [0, 6]] (.reg (.op (.build 21 ⟨TPacket, (((0 : Int), (0 : Int), (0 : Int), (0 : Int), (0 : Int), ([] : List Int), ()) : DPacket)⟩ []) none <| .op (.mv 4 (.c ⟨.str, (([] : List Int) : List Int)⟩)) none <| .op (.mv 5 (.c ⟨.bool, (false : Bool)⟩)) none <| .op (.st 6 (.t 21) 6) none <| .op (.mv 7 (.c ⟨.bool, (false : Bool)⟩)) none <| .nil))) <|
  .ret)
  .skip)) <|
  (.seq (.regD (.op (.bor 22 0) (some ([0, 22], [22])) <| .op (.fa 23 3 1 1) (some ([3, 23], [23])) <| .op (.ld 24 23 1 false) (some ([3, 23, 24], [24])) <| .op (.nilchk 25 (.t 22)) (some ([0, 22, 25], [25])) <| .op (.fa 26 25 0 0) (some ([0, 25, 26], [26])) <| .op (.idxA 27 (.t 26) (.t 24) 4 4) (some ([0, 24, 26, 27], [27])) <| .op (.ld 28 27 4 true) (some ([0, 27, 28], [28])) <| .op (.alloc 8 ⟨Ttaken, (((0 : Int), (0 : Int), (0 : Int), ([] : List Int), ()) : Dtaken)⟩) (some ([8], [8])) <| .op (.stS 8 (.t 28) 4) (some ([8, 28], [8])) <| .nil)) <|
  (.seq (.aft (.block 0 (.seq (.pre [.keep [0, 3, 6, 8]] (.reg (.op (.fa 30 8 0 0) none <| .op (.ld 31 30 1 false) none <| .op (.bin 32 .eql (.t 31) (.c ⟨.int .i64, ((0 : Int) : Int)⟩)) none <| .op (.mv 33 (.t 32)) none <| .grp 33 false (.op (.fa 34 3 3 3) (some ([3, 33, 34], [34])) <| .op (.ld 35 34 1 false) (some ([3, 33, 34, 35], [35])) <| .op (.fa 36 8 1 1) (some ([8, 33, 36], [36])) <| .op (.ld 37 36 1 false) (some ([8, 33, 36, 37], [37])) <| .op (.bin 38 .gtr (.t 35) (.t 37)) (some ([33, 35, 37, 38], [38])) <| .nil) 38 39 [34, 35, 36, 37, 38] <| .op (.mv 40 (.t 39)) none <| .grp 40 false (.op (.fa 41 3 3 3) (some ([3, 40, 41], [41])) <| .op (.ld 42 41 1 false) (some ([3, 40, 41, 42], [42])) <| .op (.fa 43 8 1 1) (some ([8, 40, 43], [43])) <| .op (.ld 44 43 1 false) (some ([8, 40, 43, 44], [44])) <| .op (.bin 45 .eql (.t 42) (.t 44)) (some ([40, 42, 44, 45], [45])) <| .op (.mv 46 (.t 45)) (some ([40, 45, 46], [46])) <| .grp 46 true (.op (.fa 47 3 4 4) (some ([3, 46, 47], [47])) <| .op (.ld 48 47 1 false) (some ([3, 46, 47, 48], [48])) <| .op (.fa 49 8 2 2) (some ([8, 46, 49], [49])) <| .op (.ld 50 49 1 false) (some ([8, 46, 49, 50], [50])) <| .op (.bin 51 .gtr (.t 48) (.t 50)) (some ([46, 48, 50, 51], [51])) <| .nil) 51 52 [47, 48, 49, 50, 51] <| .nil) 52 53 [41, 42, 43, 44, 45, 46, 47, 48, 49, 50, 51, 52] <| .op (.mv 29 (.t 53)) none <| .nil))) <|
  (.cond (.t 29)
  (.seq (.regD (.op (.bor 54 0) (some ([0, 54], [54])) <| .op (.fa 55 3 1 1) (some ([3, 55], [55])) <| .op (.ld 56 55 1 false) (some ([3, 55, 56], [56])) <| .op (.fa 57 3 3 3) (some ([3, 57], [57])) <| .op (.ld 58 57 1 false) (some ([3, 57, 58], [58])) <| .op (.fa 59 3 4 4) (some ([3, 59], [59])) <| .op (.ld 60 59 1 false) (some ([3, 59, 60], [60])) <| .op (.build 61 ⟨Ttaken, (((0 : Int), (0 : Int), (0 : Int), ([] : List Int), ()) : Dtaken)⟩ [(0, (.c ⟨.int .i64, ((1 : Int) : Int)⟩), false), (1, (.t 58), false), (2, (.t 60), false), (3, (.c ⟨.str, (([] : List Int) : List Int)⟩), false)]) (some ([58, 60, 61], [61])) <| .op (.nilchk 62 (.t 54)) (some ([0, 54, 62], [62])) <| .op (.fa 63 62 0 0) (some ([0, 62, 63], [63])) <| .op (.idxA 64 (.t 63) (.t 56) 4 4) (some ([0, 56, 63, 64], [64])) <| .op (.stS 64 (.t 61) 4) (some ([0, 61, 64], [0])) <| .nil)) <|
  (.seq (.pre [.keep [0, 3, 6]] (.reg (.op (.fa 65 3 5 5) none <| .op (.ld 66 65 1 false) none <| .op (.build 67 ⟨TPacket, (((0 : Int), (0 : Int), (0 : Int), (0 : Int), (0 : Int), ([] : List Int), ()) : DPacket)⟩ []) none <| .op (.mv 4 (.t 66)) none <| .op (.mv 5 (.c ⟨.bool, (true : Bool)⟩)) none <| .op (.st 6 (.t 67) 6) none <| .op (.mv 7 (.c ⟨.bool, (false : Bool)⟩)) none <| .nil))) <|
  .ret))
  (.seq (.reg (.op (.fa 69 8 0 0) none <| .op (.ld 70 69 1 false) none <| .op (.bin 71 .eql (.t 70) (.c ⟨.int .i64, ((2 : Int) : Int)⟩)) none <| .op (.mv 72 (.t 71)) none <| .grp 72 true (.op (.fa 73 3 3 3) (some ([3, 72, 73], [73])) <| .op (.ld 74 73 1 false) (some ([3, 72, 73, 74], [74])) <| .op (.fa 75 8 1 1) (some ([8, 72, 75], [75])) <| .op (.ld 76 75 1 false) (some ([8, 72, 75, 76], [76])) <| .op (.bin 77 .eql (.t 74) (.t 76)) (some ([72, 74, 76, 77], [77])) <| .nil) 77 78 [73, 74, 75, 76, 77] <| .op (.mv 79 (.t 78)) none <| .grp 79 true (.op (.fa 80 3 4 4) (some ([3, 79, 80], [80])) <| .op (.ld 81 80 1 false) (some ([3, 79, 80, 81], [81])) <| .op (.fa 82 8 2 2) (some ([8, 79, 82], [82])) <| .op (.ld 83 82 1 false) (some ([8, 79, 82, 83], [83])) <| .op (.bin 84 .eql (.t 81) (.t 83)) (some ([79, 81, 83, 84], [84])) <| .nil) 84 85 [80, 81, 82, 83, 84] <| .op (.mv 68 (.t 85)) none <| .nil)) <|
  (.cond (.t 68)
  (.seq (.pre [.keep [0, 3, 6]] (.reg (.op (.bor 86 0) none <| .op (.fa 87 3 1 1) none <| .op (.ld 88 87 1 false) none <| .op (.call (some 89) (r11_Callee_answer.sp n) [.r 86, .v (.t 88)]) none <| .op (.mv 4 (.c ⟨.str, (([] : List Int) : List Int)⟩)) none <| .op (.mv 5 (.c ⟨.bool, (false : Bool)⟩)) none <| .op (.st 6 (.t 89) 6) none <| .op (.mv 7 (.c ⟨.bool, (true : Bool)⟩)) none <| .nil))) <|
  .ret)
  .skip))))) [.keep [0, 6]]) X1))))
noncomputable abbrev c (n : Nat) : XC := d n (c1 n)
noncomputable def f (n : Nat) (a0 : Option DCallee') (a1 : DPacket) : Option ((Option DCallee') × ((List Int) × Bool × DPacket × Bool × Unit)) :=
  optM a0 (some (none, ([] : List Int), false, ((0 : Int), (0 : Int), (0 : Int), (0 : Int), (0 : Int), ([] : List Int), ()), false, ())) fun p1 => ((r03_Right.f n (a1.1, a1.2.1, a1.2.2.1, a1.2.2.2.1, a1.2.2.2.2.1, a1.2.2.2.2.2.1, a1.2.2.2.2.2.2)).bind fun r3 => some (!r3)).bind fun g2 =>
  (bif g2 then some true else (some (!decide (a1.1 = (1 : Int))))).bind fun g4 =>
  bif g4 then (some ((some (p1.1, p1.2)), ([] : List Int), false, ((0 : Int), (0 : Int), (0 : Int), (0 : Int), (0 : Int), ([] : List Int), ()), false, ()))
  else (inK' a1.2.1 4 ((lnth p1.1 a1.2.1).bind fun e5 => (bif (decide (e5.1 = (0 : Int))) then some true else (some (decide (e5.2.1 < a1.2.2.2.1)))).bind fun g6 =>
  (bif g6 then some true else ((bif (decide (a1.2.2.2.1 = e5.2.1)) then (some (decide (e5.2.2.1 < a1.2.2.2.2.1))) else some false).bind fun g8 =>
  some g8)).bind fun g7 =>
  bif g7 then (inK' a1.2.1 4 (some ((some ((lset p1.1 a1.2.1 ((1 : Int), a1.2.2.2.1, a1.2.2.2.2.1, ([] : List Int), ())), p1.2)), a1.2.2.2.2.2.1, true, ((0 : Int), (0 : Int), (0 : Int), (0 : Int), (0 : Int), ([] : List Int), ()), false, ())))
  else ((bif (decide (e5.1 = (2 : Int))) then (some (decide (a1.2.2.2.1 = e5.2.1))) else some false).bind fun g9 =>
  (bif g9 then (some (decide (a1.2.2.2.2.1 = e5.2.2.1))) else some false).bind fun g10 =>
  bif g10 then ((r11_Callee_answer.f n (p1.1, p1.2) a1.2.1).bind fun r11 => some ((some (p1.1, p1.2)), ([] : List Int), false, (r11.1, r11.2.1, r11.2.2.1, r11.2.2.2.1, r11.2.2.2.2.1, r11.2.2.2.2.2.1, r11.2.2.2.2.2.2), true, ()))
  else (j1 n (p1.1, p1.2) ((0 : Int), (0 : Int), (0 : Int), (0 : Int), (0 : Int), ([] : List Int), ())))))
theorem w (n : Nat) (a0 : Option DCallee') (a1 : DPacket) (X1 : XC) : evFn (d n X1) rs ps r (a0, a1, ()) =
  (optM a0 (some (none, ([] : List Int), false, ((0 : Int), (0 : Int), (0 : Int), (0 : Int), (0 : Int), ([] : List Int), ()), false, ())) fun p1 => ((r03_Right.f n (a1.1, a1.2.1, a1.2.2.1, a1.2.2.2.1, a1.2.2.2.2.1, a1.2.2.2.2.2.1, a1.2.2.2.2.2.2)).bind fun r3 => some (!r3)).bind fun g2 =>
  (bif g2 then some true else (some (!decide (a1.1 = (1 : Int))))).bind fun g4 =>
  bif g4 then (some ((some (p1.1, p1.2)), ([] : List Int), false, ((0 : Int), (0 : Int), (0 : Int), (0 : Int), (0 : Int), ([] : List Int), ()), false, ()))
  else (inK' a1.2.1 4 ((lnth p1.1 a1.2.1).bind fun e5 => (bif (decide (e5.1 = (0 : Int))) then some true else (some (decide (e5.2.1 < a1.2.2.2.1)))).bind fun g6 =>
  (bif g6 then some true else ((bif (decide (a1.2.2.2.1 = e5.2.1)) then (some (decide (e5.2.2.1 < a1.2.2.2.2.1))) else some false).bind fun g8 =>
  some g8)).bind fun g7 =>
  bif g7 then (inK' a1.2.1 4 (some ((some ((lset p1.1 a1.2.1 ((1 : Int), a1.2.2.2.1, a1.2.2.2.2.1, ([] : List Int), ())), p1.2)), a1.2.2.2.2.2.1, true, ((0 : Int), (0 : Int), (0 : Int), (0 : Int), (0 : Int), ([] : List Int), ()), false, ())))
  else ((bif (decide (e5.1 = (2 : Int))) then (some (decide (a1.2.2.2.1 = e5.2.1))) else some false).bind fun g9 =>
  (bif g9 then (some (decide (a1.2.2.2.2.1 = e5.2.2.1))) else some false).bind fun g10 =>
  bif g10 then ((r11_Callee_answer.f n (p1.1, p1.2) a1.2.1).bind fun r11 => some ((some (p1.1, p1.2)), ([] : List Int), false, (r11.1, r11.2.1, r11.2.2.1, r11.2.2.2.1, r11.2.2.2.2.1, r11.2.2.2.2.2.1, r11.2.2.2.2.2.2), true, ()))
  else (ev X1 [(0, some ⟨.box TCallee', ((p1.1, p1.2) : DCallee')⟩), (6, some ⟨.box TPacket, (((0 : Int), (0 : Int), (0 : Int), (0 : Int), (0 : Int), ([] : List Int), ()) : DPacket)⟩)] (E []) (retK rs ps r))))) : Option R) := by kernel_rfl
theorem ok (n : Nat) (a0 : Option DCallee') (a1 : DPacket) : evFn (c n) rs ps r (a0, a1, ()) = f n a0 a1 := (w n a0 a1 (c1 n)).trans (by simp -implicitDefEqProofs only [f, s1 n] <;> kernel_rfl)
noncomputable def sp (n : Nat) : FSpec := { f := 31, ps := ps, r := r, run := fun x => f n x.1 x.2.1 }
theorem calls (n : Nat) : (c n).calls = [r03_Right.sp n, r11_Callee_answer.sp n] := by kernel_rfl
theorem fits (n : Nat) : fnB tab hd Try.f31 (c n) rs (sp n).ps (sp n).r = true := by kernel_rfl
theorem sound (n : Nat) : Sound Try.prog (sp n) := by
  refine fnB_sound tabOk eqFacts mixed (fn := Try.f31) (c := c n) (rs := rs) (by kernel_rfl) ?_ (fits n) ?_
  · rw [calls]
    intro s hs
    simp only [List.mem_cons, List.not_mem_nil, or_false] at hs
    rcases hs with rfl | rfl
    · exact r03_Right.meets n
    · exact r11_Callee_answer.meets n
  · rintro ⟨a0, a1, ⟨⟩⟩ y h
    exact (ok n a0 a1).trans h
theorem meets (n : Nat) : Meets Try.prog (sp n) := (sound n).meets
end r11_Callee_Take
/-! backwater/backwaterlaw11.RpcLoads -/
namespace law11_RpcLoads
abbrev ps : List (Ty × Bool) := [(.slB .U false (.int .u8), false), (TPacket, false)]
abbrev r : Ty := .bool
abbrev rs : List RV := [.t 4]
abbrev R : Type := (rtOf ps r).den
abbrev Q : Type := St → Option R
abbrev E (l : List (Nat × Q)) : Ks R := ⟨retK rs ps r, l⟩
abbrev Z0 (x3 : Ty.den (.box TPacket)) (x5 : Ty.den (.opt TCallee)) (x7 : Ty.den (.opt TCallee')) : St := [(3, some ⟨.box TPacket, x3⟩), (5, some ⟨.opt TCallee, x5⟩), (7, some ⟨.opt TCallee', x7⟩)]
abbrev Z1 (x0 : Ty.den (.slB .U false (.int .u8))) (x3 : Ty.den (.box TPacket)) : St := [(0, some ⟨.slB .U false (.int .u8), x0⟩), (3, some ⟨.box TPacket, x3⟩)]
noncomputable def d2 (n : Nat) : XC :=
  (.seq (.pre [.split 5 []] (.reg (.op (.bor 55 5) none <| .op (.ld 56 3 6 true) none <| .op (.call (some 57) (rpc_Callee_Take.sp n) [.l 55, .v (.t 56)]) none <| .op (.take 54 57) none <| .op (.ext 58 54 0) none <| .op (.ext 59 54 1) none <| .op (.ext 60 54 2) none <| .op (.ext 61 54 3) none <| .op (.alloc 11 ⟨TPacket, (((0 : Int), (0 : Int), (0 : Int), (0 : Int), (0 : Int), ([] : List Int), ()) : DPacket)⟩) none <| .op (.mv 9 (.t 58)) none <| .op (.mv 10 (.t 59)) none <| .op (.st 11 (.t 60) 6) none <| .op (.mv 12 (.t 61)) none <| .nil))) <|
  (.seq (.pre [.split 7 []] (.reg (.op (.bor 63 7) none <| .op (.ld 64 3 6 true) none <| .op (.call (some 65) (r11_Callee_Take.sp n) [.l 63, .v (.t 64)]) none <| .op (.take 62 65) none <| .op (.ext 66 62 0) none <| .op (.ext 67 62 1) none <| .op (.ext 68 62 2) none <| .op (.ext 69 62 3) none <| .op (.alloc 15 ⟨TPacket, (((0 : Int), (0 : Int), (0 : Int), (0 : Int), (0 : Int), ([] : List Int), ()) : DPacket)⟩) none <| .op (.mv 13 (.t 66)) none <| .op (.mv 14 (.t 67)) none <| .op (.st 15 (.t 68) 6) none <| .op (.mv 16 (.t 69)) none <| .nil))) <|
  (.seq (.pre [.keep [9, 10, 11, 12, 13, 14, 15, 16]] (.reg (.op (.call (some 70) (law11_live.sp n) []) none <| .op (.mv 71 (.t 70)) none <| .grp 71 true (.op (.mv 72 (.t 9)) (some ([9, 71, 72], [72])) <| .op (.mv 73 (.t 13)) (some ([13, 71, 73], [73])) <| .op (.bin 74 .eql (.t 72) (.t 73)) (some ([71, 72, 73, 74], [74])) <| .nil) 74 75 [72, 73, 74] <| .op (.mv 76 (.t 75)) none <| .grp 76 true (.op (.mv 77 (.t 10)) (some ([10, 76, 77], [77])) <| .op (.mv 78 (.t 14)) (some ([14, 76, 78], [78])) <| .op (.eqs 79 false (.t 77) (.t 78) .bool) (some ([76, 77, 78, 79], [79])) <| .nil) 79 80 [77, 78, 79] <| .op (.mv 81 (.t 80)) none <| .grp 81 true (.op (.ld 82 11 6 true) (some ([11, 81, 82], [82])) <| .op (.ld 83 15 6 true) (some ([15, 81, 83], [83])) <| .op (.eqs 84 false (.t 82) (.t 83) TPacket) (some ([81, 82, 83, 84], [84])) <| .nil) 84 85 [82, 83, 84] <| .op (.mv 86 (.t 85)) none <| .grp 86 true (.op (.mv 87 (.t 12)) (some ([12, 86, 87], [87])) <| .op (.mv 88 (.t 16)) (some ([16, 86, 88], [88])) <| .op (.eqs 89 false (.t 87) (.t 88) .bool) (some ([86, 87, 88, 89], [89])) <| .nil) 89 90 [87, 88, 89] <| .op (.mv 4 (.t 90)) none <| .nil))) <|
  .ret)))
noncomputable abbrev c2 (n : Nat) : XC := d2 n
noncomputable def j2 (n : Nat) (x3 : DPacket) (x5 : Option DCallee) (x7 : Option DCallee') : Option Bool :=
  optM x5 ((rpc_Callee_Take.f n none (x3.1, x3.2.1, x3.2.2.1, x3.2.2.2.1, x3.2.2.2.2.1, x3.2.2.2.2.2.1, x3.2.2.2.2.2.2)).bind fun r2 => optM x7 ((r11_Callee_Take.f n none (x3.1, x3.2.1, x3.2.2.1, x3.2.2.2.1, x3.2.2.2.2.1, x3.2.2.2.2.2.1, x3.2.2.2.2.2.2)).bind fun r4 => (law11_live.f n).bind fun r5 => (bif r5 then (some (decide (r2.2.1 = r4.2.1))) else some false).bind fun g6 =>
  (bif g6 then (some (bbeq r2.2.2.1 r4.2.2.1)) else some false).bind fun g7 =>
  (bif g7 then (some ((eqI r2.2.2.2.1.1 r4.2.2.2.1.1 && (eqI r2.2.2.2.1.2.1 r4.2.2.2.1.2.1 && (eqI r2.2.2.2.1.2.2.1 r4.2.2.2.1.2.2.1 && (eqI r2.2.2.2.1.2.2.2.1 r4.2.2.2.1.2.2.2.1 && (eqI r2.2.2.2.1.2.2.2.2.1 r4.2.2.2.1.2.2.2.2.1 && (eqS r2.2.2.2.1.2.2.2.2.2.1 r4.2.2.2.1.2.2.2.2.2.1 && true)))))))) else some false).bind fun g8 =>
  (bif g8 then (some (bbeq r2.2.2.2.2.1 r4.2.2.2.2.1)) else some false).bind fun g9 =>
  some g9) fun p3 => (r11_Callee_Take.f n (some (p3.1, p3.2)) (x3.1, x3.2.1, x3.2.2.1, x3.2.2.2.1, x3.2.2.2.2.1, x3.2.2.2.2.2.1, x3.2.2.2.2.2.2)).bind fun r10 => (r10.1).bind fun p11 => (law11_live.f n).bind fun r12 => (bif r12 then (some (decide (r2.2.1 = r10.2.1))) else some false).bind fun g13 =>
  (bif g13 then (some (bbeq r2.2.2.1 r10.2.2.1)) else some false).bind fun g14 =>
  (bif g14 then (some ((eqI r2.2.2.2.1.1 r10.2.2.2.1.1 && (eqI r2.2.2.2.1.2.1 r10.2.2.2.1.2.1 && (eqI r2.2.2.2.1.2.2.1 r10.2.2.2.1.2.2.1 && (eqI r2.2.2.2.1.2.2.2.1 r10.2.2.2.1.2.2.2.1 && (eqI r2.2.2.2.1.2.2.2.2.1 r10.2.2.2.1.2.2.2.2.1 && (eqS r2.2.2.2.1.2.2.2.2.2.1 r10.2.2.2.1.2.2.2.2.2.1 && true)))))))) else some false).bind fun g15 =>
  (bif g15 then (some (bbeq r2.2.2.2.2.1 r10.2.2.2.2.1)) else some false).bind fun g16 =>
  some g16) fun p1 => (rpc_Callee_Take.f n (some (p1.1, p1.2)) (x3.1, x3.2.1, x3.2.2.1, x3.2.2.2.1, x3.2.2.2.2.1, x3.2.2.2.2.2.1, x3.2.2.2.2.2.2)).bind fun r17 => (r17.1).bind fun p18 => optM x7 ((r11_Callee_Take.f n none (x3.1, x3.2.1, x3.2.2.1, x3.2.2.2.1, x3.2.2.2.2.1, x3.2.2.2.2.2.1, x3.2.2.2.2.2.2)).bind fun r20 => (law11_live.f n).bind fun r21 => (bif r21 then (some (decide (r17.2.1 = r20.2.1))) else some false).bind fun g22 =>
  (bif g22 then (some (bbeq r17.2.2.1 r20.2.2.1)) else some false).bind fun g23 =>
  (bif g23 then (some ((eqI r17.2.2.2.1.1 r20.2.2.2.1.1 && (eqI r17.2.2.2.1.2.1 r20.2.2.2.1.2.1 && (eqI r17.2.2.2.1.2.2.1 r20.2.2.2.1.2.2.1 && (eqI r17.2.2.2.1.2.2.2.1 r20.2.2.2.1.2.2.2.1 && (eqI r17.2.2.2.1.2.2.2.2.1 r20.2.2.2.1.2.2.2.2.1 && (eqS r17.2.2.2.1.2.2.2.2.2.1 r20.2.2.2.1.2.2.2.2.2.1 && true)))))))) else some false).bind fun g24 =>
  (bif g24 then (some (bbeq r17.2.2.2.2.1 r20.2.2.2.2.1)) else some false).bind fun g25 =>
  some g25) fun p19 => (r11_Callee_Take.f n (some (p19.1, p19.2)) (x3.1, x3.2.1, x3.2.2.1, x3.2.2.2.1, x3.2.2.2.2.1, x3.2.2.2.2.2.1, x3.2.2.2.2.2.2)).bind fun r26 => (r26.1).bind fun p27 => (law11_live.f n).bind fun r28 => (bif r28 then (some (decide (r17.2.1 = r26.2.1))) else some false).bind fun g29 =>
  (bif g29 then (some (bbeq r17.2.2.1 r26.2.2.1)) else some false).bind fun g30 =>
  (bif g30 then (some ((eqI r17.2.2.2.1.1 r26.2.2.2.1.1 && (eqI r17.2.2.2.1.2.1 r26.2.2.2.1.2.1 && (eqI r17.2.2.2.1.2.2.1 r26.2.2.2.1.2.2.1 && (eqI r17.2.2.2.1.2.2.2.1 r26.2.2.2.1.2.2.2.1 && (eqI r17.2.2.2.1.2.2.2.2.1 r26.2.2.2.1.2.2.2.2.1 && (eqS r17.2.2.2.1.2.2.2.2.2.1 r26.2.2.2.1.2.2.2.2.2.1 && true)))))))) else some false).bind fun g31 =>
  (bif g31 then (some (bbeq r17.2.2.2.2.1 r26.2.2.2.2.1)) else some false).bind fun g32 =>
  some g32
theorem s2 (n : Nat) (x3 : DPacket) (x5 : Option DCallee) (x7 : Option DCallee') : ev (c2 n) (Z0 x3 x5 x7) (E []) (retK rs ps r) = j2 n x3 x5 x7 := by kernel_rfl
noncomputable def H2 (n : Nat) (X : XC) : Q := fun st => ghK [.coe 5 (.opt TCallee), .keep [3, 5, 7]] st fun st => ev X st (E []) (retK rs ps r)
noncomputable abbrev K2 (n : Nat) : Q := H2 n (c2 n)
noncomputable def d1 (n : Nat) (X2 : XC) : XC :=
  (.seq (.reg (.op (.mv 23 (.t 0)) none <| .op (.call (some 24) (rpc_LoadCallee.sp n) [.v (.t 23)]) none <| .op (.take 22 24) none <| .op (.ext 25 22 0) none <| .op (.ext 26 22 1) none <| .op (.take 5 25) none <| .op (.mv 6 (.t 26)) none <| .nil)) <|
  (.seq (.reg (.op (.mv 28 (.t 0)) none <| .op (.call (some 29) (r11_LoadCallee.sp n) [.v (.t 28)]) none <| .op (.take 27 29) none <| .op (.ext 30 27 0) none <| .op (.ext 31 27 1) none <| .op (.take 7 30) none <| .op (.mv 8 (.t 31)) none <| .nil)) <|
  (.seq (.seq (.reg (.op (.mv 32 (.t 6)) none <| .op (.bin 33 .neq (.t 32) (.c ⟨.int .i64, ((0 : Int) : Int)⟩)) none <| .op (.mv 34 (.t 33)) none <| .grp 34 false (.op (.mv 35 (.t 8)) (some ([8, 34, 35], [35])) <| .op (.bin 36 .neq (.t 35) (.c ⟨.int .i64, ((0 : Int) : Int)⟩)) (some ([34, 35, 36], [36])) <| .nil) 36 37 [35, 36] <| .nil)) <|
  (.cond (.t 37)
  (.seq (.pre [.keep [5, 6, 8], .split 5 []] (.reg (.op (.call (some 38) (law11_live.sp n) []) none <| .op (.mv 39 (.t 38)) none <| .grp 39 true (.op (.mv 40 (.t 6)) (some ([6, 39, 40], [40])) <| .op (.mv 41 (.t 8)) (some ([8, 39, 41], [41])) <| .op (.bin 42 .eql (.t 40) (.t 41)) (some ([39, 40, 41, 42], [42])) <| .nil) 42 43 [40, 41, 42] <| .op (.mv 44 (.t 43)) none <| .grp 44 true (.op (.bor 45 5) (some ([5, 44, 45], [45])) <| .op (.eqnil 46 (.t 45) false false) (some ([5, 44, 45, 46], [46])) <| .nil) 46 47 [45, 46] <| .op (.mv 4 (.t 47)) none <| .nil))) <|
  .ret)
  .skip)) <|
  (.seq (.aft (.seq (.pre [.keep [0, 3, 5, 7], .split 5 []] (.regD (.op (.bor 48 5) (some ([5, 48], [48])) <| .op (.call (some 49) (rpc_Callee_Bytes.sp n) [.r 48]) (some ([5, 48, 49], [49])) <| .op (.cvt 50 .b2s (.t 49)) (some ([49, 50], [50])) <| .op (.mv 51 (.t 0)) (some ([0, 51], [51])) <| .op (.cvt 52 .b2s (.t 51)) (some ([51, 52], [52])) <| .op (.bin 53 .neq (.t 50) (.t 52)) (some ([50, 52, 53], [53])) <| .nil))) <|
  (.cond (.t 53)
  (.seq (.reg (.op (.mv 4 (.c ⟨.bool, (false : Bool)⟩)) none <| .nil)) <|
  .ret)
  .skip)) [.coe 5 (.opt TCallee), .keep [3, 5, 7]]) X2))))
noncomputable abbrev c1 (n : Nat) : XC := d1 n (c2 n)
noncomputable def j1 (n : Nat) (x0 : List Int) (x3 : DPacket) : Option Bool :=
  (rpc_LoadCallee.f n x0).bind fun r1 => (r11_LoadCallee.f n x0).bind fun r2 => (bif (!decide (r1.2.1 = (0 : Int))) then some true else (some (!decide (r2.2.1 = (0 : Int))))).bind fun g3 =>
  bif g3 then (optM r1.1 ((law11_live.f n).bind fun r5 => (bif r5 then (some (decide (r1.2.1 = r2.2.1))) else some false).bind fun g6 =>
  (bif g6 then (some true) else some false).bind fun g7 =>
  some g7) fun p4 => (law11_live.f n).bind fun r8 => (bif r8 then (some (decide (r1.2.1 = r2.2.1))) else some false).bind fun g9 =>
  (bif g9 then (some false) else some false).bind fun g10 =>
  some g10)
  else (optM r1.1 ((rpc_Callee_Bytes.f n none).bind fun r12 => bif (!decide (r12 = x0)) then (some false)
  else (j2 n (x3.1, x3.2.1, x3.2.2.1, x3.2.2.2.1, x3.2.2.2.2.1, x3.2.2.2.2.2.1, x3.2.2.2.2.2.2) none r2.1)) fun p11 => (rpc_Callee_Bytes.f n (some (p11.1, p11.2))).bind fun r13 => bif (!decide (r13 = x0)) then (some false)
  else (j2 n (x3.1, x3.2.1, x3.2.2.1, x3.2.2.2.1, x3.2.2.2.2.1, x3.2.2.2.2.2.1, x3.2.2.2.2.2.2) (some (p11.1, p11.2)) r2.1))
theorem w1 (n : Nat) (x0 : List Int) (x3 : DPacket) (X2 : XC) : ev (d1 n X2) (Z1 x0 x3) (E []) (retK rs ps r) =
  ((rpc_LoadCallee.f n x0).bind fun r1 => (r11_LoadCallee.f n x0).bind fun r2 => (bif (!decide (r1.2.1 = (0 : Int))) then some true else (some (!decide (r2.2.1 = (0 : Int))))).bind fun g3 =>
  bif g3 then (optM r1.1 ((law11_live.f n).bind fun r5 => (bif r5 then (some (decide (r1.2.1 = r2.2.1))) else some false).bind fun g6 =>
  (bif g6 then (some true) else some false).bind fun g7 =>
  some g7) fun p4 => (law11_live.f n).bind fun r8 => (bif r8 then (some (decide (r1.2.1 = r2.2.1))) else some false).bind fun g9 =>
  (bif g9 then (some false) else some false).bind fun g10 =>
  some g10)
  else (optM r1.1 ((rpc_Callee_Bytes.f n none).bind fun r12 => bif (!decide (r12 = x0)) then (some false)
  else (ev X2 (Z0 ((x3.1, x3.2.1, x3.2.2.1, x3.2.2.2.1, x3.2.2.2.2.1, x3.2.2.2.2.2.1, x3.2.2.2.2.2.2) : DPacket) (none : Option DCallee) r2.1) (E []) (retK rs ps r))) fun p11 => (rpc_Callee_Bytes.f n (some (p11.1, p11.2))).bind fun r13 => bif (!decide (r13 = x0)) then (some false)
  else (ev X2 (Z0 ((x3.1, x3.2.1, x3.2.2.1, x3.2.2.2.1, x3.2.2.2.2.1, x3.2.2.2.2.2.1, x3.2.2.2.2.2.2) : DPacket) ((some (p11.1, p11.2)) : Option DCallee) r2.1) (E []) (retK rs ps r))) : Option R) := by kernel_rfl
theorem s1 (n : Nat) (x0 : List Int) (x3 : DPacket) : ev (c1 n) (Z1 x0 x3) (E []) (retK rs ps r) = j1 n x0 x3 := (w1 n x0 x3 (c2 n)).trans (by simp -implicitDefEqProofs only [j1, s2 n] <;> kernel_rfl)
noncomputable def H1 (n : Nat) (X : XC) : Q := fun st => ghK [.keep [0, 3]] st fun st => ev X st (E []) (retK rs ps r)
noncomputable abbrev K1 (n : Nat) : Q := H1 n (c1 n)
noncomputable def d (n : Nat) (X1 : XC) : XC :=
  (.seq (.reg (.op (.boxv 3 (.t 1)) none <| .op (.mv 4 (.c ⟨.bool, (false : Bool)⟩)) none <| .nil)) <|
  (.seq (.aft (.seq (.reg (.op (.mv 17 (.t 0)) none <| .op (.len 18 (.t 17) false) none <| .op (.bin 19 .gtr (.t 18) (.c ⟨.int .i64, ((50000 : Int) : Int)⟩)) none <| .nil)) <|
  (.cond (.t 19)
  (.reg (.op (.mv 20 (.t 0)) none <| .op (.slc 21 (.t 20) none (some (.c ⟨.int .i64, ((50000 : Int) : Int)⟩)) none 1) none <| .op (.mv 0 (.t 21)) none <| .nil))
  .skip)) [.keep [0, 3]]) X1))
noncomputable abbrev c (n : Nat) : XC := d n (c1 n)
noncomputable def f (n : Nat) (a0 : List Int) (a1 : DPacket) : Option Bool :=
  bif (decide ((50000 : Int) < (a0.length : Int))) then (sliceK 0 (50000 : Int) a0.length (j1 n (cut a0 0 (50000 : Int)) (a1.1, a1.2.1, a1.2.2.1, a1.2.2.2.1, a1.2.2.2.2.1, a1.2.2.2.2.2.1, a1.2.2.2.2.2.2)))
  else (j1 n a0 (a1.1, a1.2.1, a1.2.2.1, a1.2.2.2.1, a1.2.2.2.2.1, a1.2.2.2.2.2.1, a1.2.2.2.2.2.2))
theorem w (n : Nat) (a0 : List Int) (a1 : DPacket) (X1 : XC) : evFn (d n X1) rs ps r (a0, a1, ()) =
  (bif (decide ((50000 : Int) < (a0.length : Int))) then (sliceK 0 (50000 : Int) a0.length (ev X1 (Z1 ((cut a0 0 (50000 : Int)) : List Int) ((a1.1, a1.2.1, a1.2.2.1, a1.2.2.2.1, a1.2.2.2.2.1, a1.2.2.2.2.2.1, a1.2.2.2.2.2.2) : DPacket)) (E []) (retK rs ps r)))
  else (ev X1 (Z1 a0 ((a1.1, a1.2.1, a1.2.2.1, a1.2.2.2.1, a1.2.2.2.2.1, a1.2.2.2.2.2.1, a1.2.2.2.2.2.2) : DPacket)) (E []) (retK rs ps r)) : Option R) := by kernel_rfl
theorem ok (n : Nat) (a0 : List Int) (a1 : DPacket) : evFn (c n) rs ps r (a0, a1, ()) = f n a0 a1 := (w n a0 a1 (c1 n)).trans (by simp -implicitDefEqProofs only [f, s1 n] <;> kernel_rfl)
noncomputable def sp (n : Nat) : FSpec := { f := 10, ps := ps, r := r, run := fun x => f n x.1 x.2.1 }
theorem calls (n : Nat) : (c n).calls = [rpc_LoadCallee.sp n, r11_LoadCallee.sp n, law11_live.sp n, rpc_Callee_Bytes.sp n, rpc_Callee_Take.sp n, r11_Callee_Take.sp n, law11_live.sp n] := by kernel_rfl
theorem fits (n : Nat) : fnB tab hd Try.f10 (c n) rs (sp n).ps (sp n).r = true := by kernel_rfl
theorem sound (n : Nat) : Sound Try.prog (sp n) := by
  refine fnB_sound tabOk eqFacts mixed (fn := Try.f10) (c := c n) (rs := rs) (by kernel_rfl) ?_ (fits n) ?_
  · rw [calls]
    intro s hs
    simp only [List.mem_cons, List.not_mem_nil, or_false] at hs
    rcases hs with rfl | rfl | rfl | rfl | rfl | rfl | rfl
    · exact rpc_LoadCallee.meets n
    · exact r11_LoadCallee.meets n
    · exact law11_live.meets n
    · exact rpc_Callee_Bytes.meets n
    · exact rpc_Callee_Take.meets n
    · exact r11_Callee_Take.meets n
    · exact law11_live.meets n
  · rintro ⟨a0, a1, ⟨⟩⟩ y h
    exact (ok n a0 a1).trans h
theorem meets (n : Nat) : Meets Try.prog (sp n) := (sound n).meets
end law11_RpcLoads
end Go.Proofs.Ytpkpihcdbgckkaa.S
