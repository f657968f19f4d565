/- The types of the seat's program, as the library asks for them. -/
import Derived.Test.YtggidaedacngbaaBw5
import Derived.Test.YtggidaedacngbaaProg
namespace Go.Proofs.Ytggidaedacngbaa.S
open Go Go.Proofs Go.Proofs.Bw
noncomputable abbrev tab : Tab := [(2, ti Try.t2.desc Try.t2), (3, ti Try.t3.desc Try.t3), (4, ti Try.t4.desc Try.t4), (5, ti Try.t5.desc Try.t5), (6, ti Try.t5.desc Try.t6), (7, ti Try.t7.desc Try.t7), (8, ti Try.t7.desc Try.t8), (9, ti Try.t9.desc Try.t9), (10, ti Try.t9.desc Try.t10), (11, ti Try.t9.desc Try.t11), (12, ti Try.t12.desc Try.t12), (13, ti Try.t13.desc Try.t13), (14, ti Try.t13.desc Try.t14), (15, ti Try.t15.desc Try.t15), (16, ti Try.t16.desc Try.t16), (17, ti Try.t17.desc Try.t17), (18, ti Try.t18.desc Try.t18), (19, ti Try.t18.desc Try.t19), (20, ti Try.t20.desc Try.t20), (21, ti Try.t21.desc Try.t21), (22, ti Try.t22.desc Try.t22), (27, ti Try.t5.desc Try.t27), (28, ti Try.t28.desc Try.t28), (29, ti Try.t28.desc Try.t29), (30, ti Try.t30.desc Try.t30), (31, ti Try.t31.desc Try.t31), (32, ti Try.t31.desc Try.t32), (33, ti Try.t33.desc Try.t33), (34, ti Try.t34.desc Try.t34), (35, ti Try.t34.desc Try.t35), (38, ti Try.t38.desc Try.t38), (39, ti Try.t39.desc Try.t39), (42, ti Try.t42.desc Try.t42), (46, ti Try.t3.desc Try.t46), (52, ti Try.t52.desc Try.t52), (53, ti Try.t53.desc Try.t53), (54, ti Try.t53.desc Try.t54), (71, ti Try.t5.desc Try.t71), (72, ti Try.t72.desc Try.t72), (73, ti Try.t73.desc Try.t73), (74, ti Try.t74.desc Try.t74), (75, ti Try.t74.desc Try.t75), (77, ti Try.t77.desc Try.t77), (82, ti Try.t82.desc Try.t82), (88, ti Try.t88.desc Try.t88), (89, ti Try.t88.desc Try.t89), (106, ti Try.t106.desc Try.t106), (107, ti Try.t106.desc Try.t107), (108, ti Try.t108.desc Try.t108), (109, ti Try.t109.desc Try.t109), (110, ti Try.t109.desc Try.t110), (112, ti Try.t5.desc Try.t112), (113, ti Try.t5.desc Try.t113), (115, ti Try.t115.desc Try.t115), (116, ti Try.t21.desc Try.t116), (117, ti Try.t21.desc Try.t117), (118, ti Try.t118.desc Try.t118), (119, ti Try.t118.desc Try.t119)]
theorem tabOk : TabOk Try.prog tab :=
  TabOk.cons (by kernel_rfl) (by kernel_rfl) (by kernel_rfl) <|
  TabOk.cons (by kernel_rfl) (by kernel_rfl) (by kernel_rfl) <|
  TabOk.cons (by kernel_rfl) (by kernel_rfl) (by kernel_rfl) <|
  TabOk.cons (by kernel_rfl) (by kernel_rfl) (by kernel_rfl) <|
  TabOk.cons (by kernel_rfl) (by kernel_rfl) (by kernel_rfl) <|
  TabOk.cons (by kernel_rfl) (by kernel_rfl) (by kernel_rfl) <|
  TabOk.cons (by kernel_rfl) (by kernel_rfl) (by kernel_rfl) <|
  TabOk.cons (by kernel_rfl) (by kernel_rfl) (by kernel_rfl) <|
  TabOk.cons (by kernel_rfl) (by kernel_rfl) (by kernel_rfl) <|
  TabOk.cons (by kernel_rfl) (by kernel_rfl) (by kernel_rfl) <|
  TabOk.cons (by kernel_rfl) (by kernel_rfl) (by kernel_rfl) <|
  TabOk.cons (by kernel_rfl) (by kernel_rfl) (by kernel_rfl) <|
  TabOk.cons (by kernel_rfl) (by kernel_rfl) (by kernel_rfl) <|
  TabOk.cons (by kernel_rfl) (by kernel_rfl) (by kernel_rfl) <|
  TabOk.cons (by kernel_rfl) (by kernel_rfl) (by kernel_rfl) <|
  TabOk.cons (by kernel_rfl) (by kernel_rfl) (by kernel_rfl) <|
  TabOk.cons (by kernel_rfl) (by kernel_rfl) (by kernel_rfl) <|
  TabOk.cons (by kernel_rfl) (by kernel_rfl) (by kernel_rfl) <|
  TabOk.cons (by kernel_rfl) (by kernel_rfl) (by kernel_rfl) <|
  TabOk.cons (by kernel_rfl) (by kernel_rfl) (by kernel_rfl) <|
  TabOk.cons (by kernel_rfl) (by kernel_rfl) (by kernel_rfl) <|
  TabOk.cons (by kernel_rfl) (by kernel_rfl) (by kernel_rfl) <|
  TabOk.cons (by kernel_rfl) (by kernel_rfl) (by kernel_rfl) <|
  TabOk.cons (by kernel_rfl) (by kernel_rfl) (by kernel_rfl) <|
  TabOk.cons (by kernel_rfl) (by kernel_rfl) (by kernel_rfl) <|
  TabOk.cons (by kernel_rfl) (by kernel_rfl) (by kernel_rfl) <|
  TabOk.cons (by kernel_rfl) (by kernel_rfl) (by kernel_rfl) <|
  TabOk.cons (by kernel_rfl) (by kernel_rfl) (by kernel_rfl) <|
  TabOk.cons (by kernel_rfl) (by kernel_rfl) (by kernel_rfl) <|
  TabOk.cons (by kernel_rfl) (by kernel_rfl) (by kernel_rfl) <|
  TabOk.cons (by kernel_rfl) (by kernel_rfl) (by kernel_rfl) <|
  TabOk.cons (by kernel_rfl) (by kernel_rfl) (by kernel_rfl) <|
  TabOk.cons (by kernel_rfl) (by kernel_rfl) (by kernel_rfl) <|
  TabOk.cons (by kernel_rfl) (by kernel_rfl) (by kernel_rfl) <|
  TabOk.cons (by kernel_rfl) (by kernel_rfl) (by kernel_rfl) <|
  TabOk.cons (by kernel_rfl) (by kernel_rfl) (by kernel_rfl) <|
  TabOk.cons (by kernel_rfl) (by kernel_rfl) (by kernel_rfl) <|
  TabOk.cons (by kernel_rfl) (by kernel_rfl) (by kernel_rfl) <|
  TabOk.cons (by kernel_rfl) (by kernel_rfl) (by kernel_rfl) <|
  TabOk.cons (by kernel_rfl) (by kernel_rfl) (by kernel_rfl) <|
  TabOk.cons (by kernel_rfl) (by kernel_rfl) (by kernel_rfl) <|
  TabOk.cons (by kernel_rfl) (by kernel_rfl) (by kernel_rfl) <|
  TabOk.cons (by kernel_rfl) (by kernel_rfl) (by kernel_rfl) <|
  TabOk.cons (by kernel_rfl) (by kernel_rfl) (by kernel_rfl) <|
  TabOk.cons (by kernel_rfl) (by kernel_rfl) (by kernel_rfl) <|
  TabOk.cons (by kernel_rfl) (by kernel_rfl) (by kernel_rfl) <|
  TabOk.cons (by kernel_rfl) (by kernel_rfl) (by kernel_rfl) <|
  TabOk.cons (by kernel_rfl) (by kernel_rfl) (by kernel_rfl) <|
  TabOk.cons (by kernel_rfl) (by kernel_rfl) (by kernel_rfl) <|
  TabOk.cons (by kernel_rfl) (by kernel_rfl) (by kernel_rfl) <|
  TabOk.cons (by kernel_rfl) (by kernel_rfl) (by kernel_rfl) <|
  TabOk.cons (by kernel_rfl) (by kernel_rfl) (by kernel_rfl) <|
  TabOk.cons (by kernel_rfl) (by kernel_rfl) (by kernel_rfl) <|
  TabOk.cons (by kernel_rfl) (by kernel_rfl) (by kernel_rfl) <|
  TabOk.cons (by kernel_rfl) (by kernel_rfl) (by kernel_rfl) <|
  TabOk.cons (by kernel_rfl) (by kernel_rfl) (by kernel_rfl) <|
  TabOk.cons (by kernel_rfl) (by kernel_rfl) (by kernel_rfl) <|
  TabOk.cons (by kernel_rfl) (by kernel_rfl) (by kernel_rfl) <| TabOk.nil
abbrev hd : List Nat := [32, 35, 54, 89]
theorem eqFacts : EqFacts Try.prog hd := ⟨fun t ht => by
  simp only [hd, List.mem_cons, List.not_mem_nil, or_false] at ht
  rcases ht with rfl | rfl | rfl | rfl <;> kernel_rfl, fun t ht => by
  simp only [hd, List.mem_cons, List.not_mem_nil, or_false] at ht
  rcases ht with rfl | rfl | rfl | rfl <;> kernel_rfl⟩
theorem mixed : Try.prog.follows .mixedOrders = true := by kernel_rfl
end Go.Proofs.Ytggidaedacngbaa.S
