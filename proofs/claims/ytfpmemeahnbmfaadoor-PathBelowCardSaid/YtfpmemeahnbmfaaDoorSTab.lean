/- The types of the seat's program, as the library asks for them. -/
import Derived.Test.YtfpmemeahnbmfaaDoorBw4
import Derived.Test.YtfpmemeahnbmfaaDoorProg
namespace Go.Proofs.YtfpmemeahnbmfaaDoor.S
open Go Go.Proofs Go.Proofs.Bw
noncomputable abbrev tab : Tab := [(2, ti Tryd.t2.desc Tryd.t2), (3, ti Tryd.t3.desc Tryd.t3), (4, ti Tryd.t4.desc Tryd.t4), (5, ti Tryd.t5.desc Tryd.t5), (6, ti Tryd.t5.desc Tryd.t6), (7, ti Tryd.t7.desc Tryd.t7), (8, ti Tryd.t7.desc Tryd.t8), (9, ti Tryd.t9.desc Tryd.t9), (10, ti Tryd.t9.desc Tryd.t10), (11, ti Tryd.t9.desc Tryd.t11), (12, ti Tryd.t12.desc Tryd.t12), (13, ti Tryd.t13.desc Tryd.t13), (14, ti Tryd.t13.desc Tryd.t14), (15, ti Tryd.t15.desc Tryd.t15), (16, ti Tryd.t16.desc Tryd.t16), (17, ti Tryd.t17.desc Tryd.t17), (18, ti Tryd.t18.desc Tryd.t18), (19, ti Tryd.t18.desc Tryd.t19), (20, ti Tryd.t20.desc Tryd.t20), (21, ti Tryd.t21.desc Tryd.t21), (22, ti Tryd.t22.desc Tryd.t22), (23, ti Tryd.t3.desc Tryd.t23), (29, ti Tryd.t29.desc Tryd.t29), (47, ti Tryd.t47.desc Tryd.t47), (48, ti Tryd.t48.desc Tryd.t48), (49, ti Tryd.t49.desc Tryd.t49), (50, ti Tryd.t49.desc Tryd.t50), (52, ti Tryd.t52.desc Tryd.t52), (53, ti Tryd.t52.desc Tryd.t53), (59, ti Tryd.t59.desc Tryd.t59), (63, ti Tryd.t63.desc Tryd.t63), (64, ti Tryd.t64.desc Tryd.t64), (70, ti Tryd.t70.desc Tryd.t70), (71, ti Tryd.t71.desc Tryd.t71), (72, ti Tryd.t71.desc Tryd.t72), (73, ti Tryd.t73.desc Tryd.t73), (74, ti Tryd.t74.desc Tryd.t74), (75, ti Tryd.t74.desc Tryd.t75), (76, ti Tryd.t76.desc Tryd.t76), (77, ti Tryd.t77.desc Tryd.t77), (78, ti Tryd.t77.desc Tryd.t78), (80, ti Tryd.t5.desc Tryd.t80), (81, ti Tryd.t5.desc Tryd.t81), (83, ti Tryd.t21.desc Tryd.t83), (84, ti Tryd.t21.desc Tryd.t84), (85, ti Tryd.t85.desc Tryd.t85), (86, ti Tryd.t85.desc Tryd.t86)]
theorem tabOk : TabOk Tryd.prog tab :=
  TabOk.cons (by kernel_rfl) (by kernel_rfl) (by kernel_rfl) <|
  TabOk.cons (by kernel_rfl) (by kernel_rfl) (by kernel_rfl) <|
  TabOk.cons (by kernel_rfl) (by kernel_rfl) (by kernel_rfl) <|
  TabOk.cons (by kernel_rfl) (by kernel_rfl) (by kernel_rfl) <|
  TabOk.cons (by kernel_rfl) (by kernel_rfl) (by kernel_rfl) <|
  TabOk.cons (by kernel_rfl) (by kernel_rfl) (by kernel_rfl) <|
  TabOk.cons (by kernel_rfl) (by kernel_rfl) (by kernel_rfl) <|
  TabOk.cons (by kernel_rfl) (by kernel_rfl) (by kernel_rfl) <|
  TabOk.cons (by kernel_rfl) (by kernel_rfl) (by kernel_rfl) <|
  TabOk.cons (by kernel_rfl) (by kernel_rfl) (by kernel_rfl) <|
  TabOk.cons (by kernel_rfl) (by kernel_rfl) (by kernel_rfl) <|
  TabOk.cons (by kernel_rfl) (by kernel_rfl) (by kernel_rfl) <|
  TabOk.cons (by kernel_rfl) (by kernel_rfl) (by kernel_rfl) <|
  TabOk.cons (by kernel_rfl) (by kernel_rfl) (by kernel_rfl) <|
  TabOk.cons (by kernel_rfl) (by kernel_rfl) (by kernel_rfl) <|
  TabOk.cons (by kernel_rfl) (by kernel_rfl) (by kernel_rfl) <|
  TabOk.cons (by kernel_rfl) (by kernel_rfl) (by kernel_rfl) <|
  TabOk.cons (by kernel_rfl) (by kernel_rfl) (by kernel_rfl) <|
  TabOk.cons (by kernel_rfl) (by kernel_rfl) (by kernel_rfl) <|
  TabOk.cons (by kernel_rfl) (by kernel_rfl) (by kernel_rfl) <|
  TabOk.cons (by kernel_rfl) (by kernel_rfl) (by kernel_rfl) <|
  TabOk.cons (by kernel_rfl) (by kernel_rfl) (by kernel_rfl) <|
  TabOk.cons (by kernel_rfl) (by kernel_rfl) (by kernel_rfl) <|
  TabOk.cons (by kernel_rfl) (by kernel_rfl) (by kernel_rfl) <|
  TabOk.cons (by kernel_rfl) (by kernel_rfl) (by kernel_rfl) <|
  TabOk.cons (by kernel_rfl) (by kernel_rfl) (by kernel_rfl) <|
  TabOk.cons (by kernel_rfl) (by kernel_rfl) (by kernel_rfl) <|
  TabOk.cons (by kernel_rfl) (by kernel_rfl) (by kernel_rfl) <|
  TabOk.cons (by kernel_rfl) (by kernel_rfl) (by kernel_rfl) <|
  TabOk.cons (by kernel_rfl) (by kernel_rfl) (by kernel_rfl) <|
  TabOk.cons (by kernel_rfl) (by kernel_rfl) (by kernel_rfl) <|
  TabOk.cons (by kernel_rfl) (by kernel_rfl) (by kernel_rfl) <|
  TabOk.cons (by kernel_rfl) (by kernel_rfl) (by kernel_rfl) <|
  TabOk.cons (by kernel_rfl) (by kernel_rfl) (by kernel_rfl) <|
  TabOk.cons (by kernel_rfl) (by kernel_rfl) (by kernel_rfl) <|
  TabOk.cons (by kernel_rfl) (by kernel_rfl) (by kernel_rfl) <|
  TabOk.cons (by kernel_rfl) (by kernel_rfl) (by kernel_rfl) <|
  TabOk.cons (by kernel_rfl) (by kernel_rfl) (by kernel_rfl) <|
  TabOk.cons (by kernel_rfl) (by kernel_rfl) (by kernel_rfl) <|
  TabOk.cons (by kernel_rfl) (by kernel_rfl) (by kernel_rfl) <|
  TabOk.cons (by kernel_rfl) (by kernel_rfl) (by kernel_rfl) <|
  TabOk.cons (by kernel_rfl) (by kernel_rfl) (by kernel_rfl) <|
  TabOk.cons (by kernel_rfl) (by kernel_rfl) (by kernel_rfl) <|
  TabOk.cons (by kernel_rfl) (by kernel_rfl) (by kernel_rfl) <|
  TabOk.cons (by kernel_rfl) (by kernel_rfl) (by kernel_rfl) <|
  TabOk.cons (by kernel_rfl) (by kernel_rfl) (by kernel_rfl) <|
  TabOk.cons (by kernel_rfl) (by kernel_rfl) (by kernel_rfl) <| TabOk.nil
abbrev hd : List Nat := []
theorem eqFacts : EqFacts Tryd.prog hd := ⟨fun t ht => (by cases ht), fun t ht => (by cases ht)⟩
theorem mixed : Tryd.prog.follows .mixedOrders = true := by kernel_rfl
end Go.Proofs.YtfpmemeahnbmfaaDoor.S
