/- The types of the seat's program, as the library asks for them. -/
import Derived.Test.YtpkpihcdbgckkaaBw5
import Derived.Test.YtpkpihcdbgckkaaProg
namespace Go.Proofs.Ytpkpihcdbgckkaa.S
open Go Go.Proofs Go.Proofs.Bw
noncomputable abbrev tab : Tab := [(2, ti Try.t2.desc Try.t2), (3, ti Try.t3.desc Try.t3), (4, ti Try.t4.desc Try.t4), (5, ti Try.t5.desc Try.t5), (6, ti Try.t5.desc Try.t6), (7, ti Try.t7.desc Try.t7), (8, ti Try.t7.desc Try.t8), (9, ti Try.t9.desc Try.t9), (10, ti Try.t9.desc Try.t10), (11, ti Try.t9.desc Try.t11), (12, ti Try.t12.desc Try.t12), (13, ti Try.t13.desc Try.t13), (14, ti Try.t13.desc Try.t14), (15, ti Try.t15.desc Try.t15), (16, ti Try.t16.desc Try.t16), (17, ti Try.t17.desc Try.t17), (18, ti Try.t18.desc Try.t18), (19, ti Try.t18.desc Try.t19), (20, ti Try.t20.desc Try.t20), (21, ti Try.t21.desc Try.t21), (22, ti Try.t22.desc Try.t22), (23, ti Try.t23.desc Try.t23), (24, ti Try.t24.desc Try.t24), (26, ti Try.t5.desc Try.t26), (27, ti Try.t27.desc Try.t27), (28, ti Try.t27.desc Try.t28), (33, ti Try.t33.desc Try.t33), (34, ti Try.t34.desc Try.t34), (36, ti Try.t3.desc Try.t36), (38, ti Try.t38.desc Try.t38), (42, ti Try.t42.desc Try.t42), (43, ti Try.t43.desc Try.t43), (45, ti Try.t45.desc Try.t45), (49, ti Try.t49.desc Try.t49), (50, ti Try.t50.desc Try.t50), (52, ti Try.t52.desc Try.t52), (53, ti Try.t53.desc Try.t53), (54, ti Try.t54.desc Try.t54), (55, ti Try.t54.desc Try.t55), (64, ti Try.t64.desc Try.t64), (65, ti Try.t64.desc Try.t65), (74, ti Try.t74.desc Try.t74), (75, ti Try.t74.desc Try.t75), (76, ti Try.t76.desc Try.t76), (77, ti Try.t77.desc Try.t77), (78, ti Try.t77.desc Try.t78), (80, ti Try.t80.desc Try.t80), (82, ti Try.t82.desc Try.t82), (83, ti Try.t82.desc Try.t83), (85, ti Try.t85.desc Try.t85), (86, ti Try.t85.desc Try.t86), (87, ti Try.t87.desc Try.t87), (88, ti Try.t87.desc Try.t88), (89, ti Try.t89.desc Try.t89), (90, ti Try.t90.desc Try.t90), (91, ti Try.t90.desc Try.t91), (93, ti Try.t93.desc Try.t93), (96, ti Try.t96.desc Try.t96), (97, ti Try.t97.desc Try.t97), (98, ti Try.t97.desc Try.t98), (104, ti Try.t104.desc Try.t104), (105, ti Try.t104.desc Try.t105), (106, ti Try.t106.desc Try.t106), (107, ti Try.t107.desc Try.t107), (108, ti Try.t107.desc Try.t108), (110, ti Try.t5.desc Try.t110), (111, ti Try.t5.desc Try.t111), (113, ti Try.t113.desc Try.t113), (114, ti Try.t21.desc Try.t114), (115, ti Try.t21.desc Try.t115), (116, ti Try.t116.desc Try.t116), (117, ti Try.t116.desc Try.t117)]
theorem tabOk : TabOk Try.prog tab :=
  TabOk.cons (by kernel_rfl) (by kernel_rfl) (by kernel_rfl) <|
  TabOk.cons (by kernel_rfl) (by kernel_rfl) (by kernel_rfl) <|
  TabOk.cons (by kernel_rfl) (by kernel_rfl) (by kernel_rfl) <|
  TabOk.cons (by kernel_rfl) (by kernel_rfl) (by kernel_rfl) <|
  TabOk.cons (by kernel_rfl) (by kernel_rfl) (by kernel_rfl) <|
  TabOk.cons (by kernel_rfl) (by kernel_rfl) (by kernel_rfl) <|
  TabOk.cons (by kernel_rfl) (by kernel_rfl) (by kernel_rfl) <|
  TabOk.cons (by kernel_rfl) (by kernel_rfl) (by kernel_rfl) <|
  TabOk.cons (by kernel_rfl) (by kernel_rfl) (by kernel_rfl) <|
  TabOk.cons (by kernel_rfl) (by kernel_rfl) (by kernel_rfl) <|
  TabOk.cons (by kernel_rfl) (by kernel_rfl) (by kernel_rfl) <|
  TabOk.cons (by kernel_rfl) (by kernel_rfl) (by kernel_rfl) <|
  TabOk.cons (by kernel_rfl) (by kernel_rfl) (by kernel_rfl) <|
  TabOk.cons (by kernel_rfl) (by kernel_rfl) (by kernel_rfl) <|
  TabOk.cons (by kernel_rfl) (by kernel_rfl) (by kernel_rfl) <|
  TabOk.cons (by kernel_rfl) (by kernel_rfl) (by kernel_rfl) <|
  TabOk.cons (by kernel_rfl) (by kernel_rfl) (by kernel_rfl) <|
  TabOk.cons (by kernel_rfl) (by kernel_rfl) (by kernel_rfl) <|
  TabOk.cons (by kernel_rfl) (by kernel_rfl) (by kernel_rfl) <|
  TabOk.cons (by kernel_rfl) (by kernel_rfl) (by kernel_rfl) <|
  TabOk.cons (by kernel_rfl) (by kernel_rfl) (by kernel_rfl) <|
  TabOk.cons (by kernel_rfl) (by kernel_rfl) (by kernel_rfl) <|
  TabOk.cons (by kernel_rfl) (by kernel_rfl) (by kernel_rfl) <|
  TabOk.cons (by kernel_rfl) (by kernel_rfl) (by kernel_rfl) <|
  TabOk.cons (by kernel_rfl) (by kernel_rfl) (by kernel_rfl) <|
  TabOk.cons (by kernel_rfl) (by kernel_rfl) (by kernel_rfl) <|
  TabOk.cons (by kernel_rfl) (by kernel_rfl) (by kernel_rfl) <|
  TabOk.cons (by kernel_rfl) (by kernel_rfl) (by kernel_rfl) <|
  TabOk.cons (by kernel_rfl) (by kernel_rfl) (by kernel_rfl) <|
  TabOk.cons (by kernel_rfl) (by kernel_rfl) (by kernel_rfl) <|
  TabOk.cons (by kernel_rfl) (by kernel_rfl) (by kernel_rfl) <|
  TabOk.cons (by kernel_rfl) (by kernel_rfl) (by kernel_rfl) <|
  TabOk.cons (by kernel_rfl) (by kernel_rfl) (by kernel_rfl) <|
  TabOk.cons (by kernel_rfl) (by kernel_rfl) (by kernel_rfl) <|
  TabOk.cons (by kernel_rfl) (by kernel_rfl) (by kernel_rfl) <|
  TabOk.cons (by kernel_rfl) (by kernel_rfl) (by kernel_rfl) <|
  TabOk.cons (by kernel_rfl) (by kernel_rfl) (by kernel_rfl) <|
  TabOk.cons (by kernel_rfl) (by kernel_rfl) (by kernel_rfl) <|
  TabOk.cons (by kernel_rfl) (by kernel_rfl) (by kernel_rfl) <|
  TabOk.cons (by kernel_rfl) (by kernel_rfl) (by kernel_rfl) <|
  TabOk.cons (by kernel_rfl) (by kernel_rfl) (by kernel_rfl) <|
  TabOk.cons (by kernel_rfl) (by kernel_rfl) (by kernel_rfl) <|
  TabOk.cons (by kernel_rfl) (by kernel_rfl) (by kernel_rfl) <|
  TabOk.cons (by kernel_rfl) (by kernel_rfl) (by kernel_rfl) <|
  TabOk.cons (by kernel_rfl) (by kernel_rfl) (by kernel_rfl) <|
  TabOk.cons (by kernel_rfl) (by kernel_rfl) (by kernel_rfl) <|
  TabOk.cons (by kernel_rfl) (by kernel_rfl) (by kernel_rfl) <|
  TabOk.cons (by kernel_rfl) (by kernel_rfl) (by kernel_rfl) <|
  TabOk.cons (by kernel_rfl) (by kernel_rfl) (by kernel_rfl) <|
  TabOk.cons (by kernel_rfl) (by kernel_rfl) (by kernel_rfl) <|
  TabOk.cons (by kernel_rfl) (by kernel_rfl) (by kernel_rfl) <|
  TabOk.cons (by kernel_rfl) (by kernel_rfl) (by kernel_rfl) <|
  TabOk.cons (by kernel_rfl) (by kernel_rfl) (by kernel_rfl) <|
  TabOk.cons (by kernel_rfl) (by kernel_rfl) (by kernel_rfl) <|
  TabOk.cons (by kernel_rfl) (by kernel_rfl) (by kernel_rfl) <|
  TabOk.cons (by kernel_rfl) (by kernel_rfl) (by kernel_rfl) <|
  TabOk.cons (by kernel_rfl) (by kernel_rfl) (by kernel_rfl) <|
  TabOk.cons (by kernel_rfl) (by kernel_rfl) (by kernel_rfl) <|
  TabOk.cons (by kernel_rfl) (by kernel_rfl) (by kernel_rfl) <|
  TabOk.cons (by kernel_rfl) (by kernel_rfl) (by kernel_rfl) <|
  TabOk.cons (by kernel_rfl) (by kernel_rfl) (by kernel_rfl) <|
  TabOk.cons (by kernel_rfl) (by kernel_rfl) (by kernel_rfl) <|
  TabOk.cons (by kernel_rfl) (by kernel_rfl) (by kernel_rfl) <|
  TabOk.cons (by kernel_rfl) (by kernel_rfl) (by kernel_rfl) <|
  TabOk.cons (by kernel_rfl) (by kernel_rfl) (by kernel_rfl) <|
  TabOk.cons (by kernel_rfl) (by kernel_rfl) (by kernel_rfl) <|
  TabOk.cons (by kernel_rfl) (by kernel_rfl) (by kernel_rfl) <|
  TabOk.cons (by kernel_rfl) (by kernel_rfl) (by kernel_rfl) <|
  TabOk.cons (by kernel_rfl) (by kernel_rfl) (by kernel_rfl) <|
  TabOk.cons (by kernel_rfl) (by kernel_rfl) (by kernel_rfl) <|
  TabOk.cons (by kernel_rfl) (by kernel_rfl) (by kernel_rfl) <|
  TabOk.cons (by kernel_rfl) (by kernel_rfl) (by kernel_rfl) <| TabOk.nil
abbrev hd : List Nat := [28]
theorem eqFacts : EqFacts Try.prog hd := ⟨fun t ht => by
  simp only [hd, List.mem_cons, List.not_mem_nil, or_false] at ht
  rcases ht with rfl <;> kernel_rfl, fun t ht => by
  simp only [hd, List.mem_cons, List.not_mem_nil, or_false] at ht
  rcases ht with rfl <;> kernel_rfl⟩
theorem mixed : Try.prog.follows .mixedOrders = true := by kernel_rfl
end Go.Proofs.Ytpkpihcdbgckkaa.S
