/- The types of the seat's program, as the library asks for them. -/
import Derived.Test.YtfpmemeahnbmfaaBw4
import Derived.Test.YtfpmemeahnbmfaaProg
namespace Go.Proofs.Ytfpmemeahnbmfaa.S
open Go Go.Proofs Go.Proofs.Bw
noncomputable abbrev tab : Tab := [(2, ti Try.t2.desc Try.t2), (3, ti Try.t3.desc Try.t3), (4, ti Try.t4.desc Try.t4), (5, ti Try.t5.desc Try.t5), (6, ti Try.t5.desc Try.t6), (7, ti Try.t7.desc Try.t7), (8, ti Try.t7.desc Try.t8), (9, ti Try.t9.desc Try.t9), (10, ti Try.t9.desc Try.t10), (11, ti Try.t9.desc Try.t11), (12, ti Try.t12.desc Try.t12), (13, ti Try.t13.desc Try.t13), (14, ti Try.t13.desc Try.t14), (15, ti Try.t15.desc Try.t15), (16, ti Try.t16.desc Try.t16), (17, ti Try.t17.desc Try.t17), (18, ti Try.t18.desc Try.t18), (19, ti Try.t18.desc Try.t19), (20, ti Try.t20.desc Try.t20), (21, ti Try.t21.desc Try.t21), (22, ti Try.t22.desc Try.t22), (23, ti Try.t3.desc Try.t23), (44, ti Try.t44.desc Try.t44), (45, ti Try.t45.desc Try.t45), (46, ti Try.t46.desc Try.t46), (47, ti Try.t46.desc Try.t47), (49, ti Try.t49.desc Try.t49), (50, ti Try.t49.desc Try.t50), (54, ti Try.t54.desc Try.t54), (61, ti Try.t61.desc Try.t61), (62, ti Try.t62.desc Try.t62), (65, ti Try.t65.desc Try.t65), (66, ti Try.t65.desc Try.t66), (67, ti Try.t67.desc Try.t67), (68, ti Try.t68.desc Try.t68), (69, ti Try.t68.desc Try.t69), (71, ti Try.t5.desc Try.t71), (72, ti Try.t5.desc Try.t72), (74, ti Try.t21.desc Try.t74), (75, ti Try.t21.desc Try.t75), (76, ti Try.t76.desc Try.t76), (77, ti Try.t76.desc Try.t77)]
theorem tabOk : TabOk Try.prog tab :=
  TabOk.cons (by kernel_rfl) (by kernel_rfl) (by kernel_rfl) <|
  TabOk.cons (by kernel_rfl) (by kernel_rfl) (by kernel_rfl) <|
  TabOk.cons (by kernel_rfl) (by kernel_rfl) (by kernel_rfl) <|
  TabOk.cons (by kernel_rfl) (by kernel_rfl) (by kernel_rfl) <|
  TabOk.cons (by kernel_rfl) (by kernel_rfl) (by kernel_rfl) <|
  TabOk.cons (by kernel_rfl) (by kernel_rfl) (by kernel_rfl) <|
  TabOk.cons (by kernel_rfl) (by kernel_rfl) (by kernel_rfl) <|
  TabOk.cons (by kernel_rfl) (by kernel_rfl) (by kernel_rfl) <|
  TabOk.cons (by kernel_rfl) (by kernel_rfl) (by kernel_rfl) <|
  TabOk.cons (by kernel_rfl) (by kernel_rfl) (by kernel_rfl) <|
  TabOk.cons (by kernel_rfl) (by kernel_rfl) (by kernel_rfl) <|
  TabOk.cons (by kernel_rfl) (by kernel_rfl) (by kernel_rfl) <|
  TabOk.cons (by kernel_rfl) (by kernel_rfl) (by kernel_rfl) <|
  TabOk.cons (by kernel_rfl) (by kernel_rfl) (by kernel_rfl) <|
  TabOk.cons (by kernel_rfl) (by kernel_rfl) (by kernel_rfl) <|
  TabOk.cons (by kernel_rfl) (by kernel_rfl) (by kernel_rfl) <|
  TabOk.cons (by kernel_rfl) (by kernel_rfl) (by kernel_rfl) <|
  TabOk.cons (by kernel_rfl) (by kernel_rfl) (by kernel_rfl) <|
  TabOk.cons (by kernel_rfl) (by kernel_rfl) (by kernel_rfl) <|
  TabOk.cons (by kernel_rfl) (by kernel_rfl) (by kernel_rfl) <|
  TabOk.cons (by kernel_rfl) (by kernel_rfl) (by kernel_rfl) <|
  TabOk.cons (by kernel_rfl) (by kernel_rfl) (by kernel_rfl) <|
  TabOk.cons (by kernel_rfl) (by kernel_rfl) (by kernel_rfl) <|
  TabOk.cons (by kernel_rfl) (by kernel_rfl) (by kernel_rfl) <|
  TabOk.cons (by kernel_rfl) (by kernel_rfl) (by kernel_rfl) <|
  TabOk.cons (by kernel_rfl) (by kernel_rfl) (by kernel_rfl) <|
  TabOk.cons (by kernel_rfl) (by kernel_rfl) (by kernel_rfl) <|
  TabOk.cons (by kernel_rfl) (by kernel_rfl) (by kernel_rfl) <|
  TabOk.cons (by kernel_rfl) (by kernel_rfl) (by kernel_rfl) <|
  TabOk.cons (by kernel_rfl) (by kernel_rfl) (by kernel_rfl) <|
  TabOk.cons (by kernel_rfl) (by kernel_rfl) (by kernel_rfl) <|
  TabOk.cons (by kernel_rfl) (by kernel_rfl) (by kernel_rfl) <|
  TabOk.cons (by kernel_rfl) (by kernel_rfl) (by kernel_rfl) <|
  TabOk.cons (by kernel_rfl) (by kernel_rfl) (by kernel_rfl) <|
  TabOk.cons (by kernel_rfl) (by kernel_rfl) (by kernel_rfl) <|
  TabOk.cons (by kernel_rfl) (by kernel_rfl) (by kernel_rfl) <|
  TabOk.cons (by kernel_rfl) (by kernel_rfl) (by kernel_rfl) <|
  TabOk.cons (by kernel_rfl) (by kernel_rfl) (by kernel_rfl) <|
  TabOk.cons (by kernel_rfl) (by kernel_rfl) (by kernel_rfl) <|
  TabOk.cons (by kernel_rfl) (by kernel_rfl) (by kernel_rfl) <|
  TabOk.cons (by kernel_rfl) (by kernel_rfl) (by kernel_rfl) <|
  TabOk.cons (by kernel_rfl) (by kernel_rfl) (by kernel_rfl) <| TabOk.nil
abbrev hd : List Nat := []
theorem eqFacts : EqFacts Try.prog hd := ⟨fun t ht => (by cases ht), fun t ht => (by cases ht)⟩
theorem mixed : Try.prog.follows .mixedOrders = true := by kernel_rfl
end Go.Proofs.Ytfpmemeahnbmfaa.S
