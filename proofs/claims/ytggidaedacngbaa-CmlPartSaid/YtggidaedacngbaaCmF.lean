/- Logs: CmlOptimises, CmlTwice, CmlPart. -/
import Derived.Test.YtggidaedacngbaaCmE
set_option linter.unusedVariables false
set_option linter.unusedSimpArgs false
namespace Go.Proofs.Ytggidaedacngbaa.S
open Go Go.Proofs Go.Proofs.Bw

theorem rClean_run (n : Nat) (hn : 1000 < n) (l : List DRecord) (hl : l.length ≤ 1000) : r08_Clean.f n l = some (decide (optL l = l)) := by
  unfold r08_Clean.f
  rw [ropt_run n hn l hl]
  simp only [Option.bind_some]
  rw [rSame_run n hn _ _ (by have := optL_len l; omega)]
  rfl
theorem Clean_run (n : Nat) (hn : 1000 < n) (l : List DRecord) (hl : l.length ≤ 1000) : cml_Clean.f n l = some (decide (optL l = l)) := by
  unfold cml_Clean.f
  rw [opt_run n hn l hl]
  simp only [Option.bind_some]
  rw [Same_run n hn _ _ (by have := optL_len l; omega)]
  rfl
theorem CmlOptimises_pure (l : List DRecord) (h0 : Ty.wf (.slB .U false TRecord) l) : law08_CmlOptimises.f 300000 l = some true := by
  unfold law08_CmlOptimises.f
  rw [few_run]
  have hl : (l.take 40).length ≤ 40 := by simp; omega
  generalize l.take 40 = x at hl
  have hx := optL_len x
  simp only [Option.bind_some]
  rw [show law08_live.f 300000 = some true from live_ok 299940, opt_run _ (by omega) _ (by omega), ropt_run _ (by omega) _ (by omega)]
  simp only [Option.bind_some]
  rw [Same_run _ (by omega) _ _ (by omega), Clean_run _ (by omega) _ (by omega), rClean_run _ (by omega) _ (by omega)]
  simp only [Option.bind_some, cond_true, decide_true, bbeq_self]
/-! once more -/
inductive Sub : List DRecord → List DRecord → Prop
  | nil (l : List DRecord) : Sub [] l
  | keep (a : DRecord) {x y : List DRecord} : Sub x y → Sub (a :: x) (a :: y)
  | skip (a : DRecord) {x y : List DRecord} : Sub x y → Sub x (a :: y)
theorem Sub.refl : ∀ l, Sub l l
  | [] => .nil _
  | a :: l => .keep a (Sub.refl l)
theorem Sub.trans {x y z : List DRecord} (h : Sub x y) (h2 : Sub y z) : Sub x z := by
  induction h2 generalizing x with
  | nil l => cases h; exact .nil _
  | keep a h2 ih =>
    cases h with
    | nil => exact .nil _
    | keep _ h => exact .keep a (ih h)
    | skip _ h => exact .skip a (ih h)
  | skip a h2 ih => exact .skip a (ih h)
theorem Sub.app {x y : List DRecord} (h : Sub x y) {u v : List DRecord} (h2 : Sub u v) : Sub (x ++ u) (y ++ v) := by
  induction h with
  | nil l =>
    induction l with
    | nil => exact h2
    | cons a l ih => exact .skip a ih
  | keep a h ih => exact .keep a ih
  | skip a h ih => exact .skip a ih
theorem Sub.filter (p : DRecord → Bool) : ∀ l : List DRecord, Sub (l.filter p) l
  | [] => .nil _
  | a :: l => by
    rw [List.filter_cons]
    cases p a with
    | true => exact .keep a (Sub.filter p l)
    | false => exact .skip a (Sub.filter p l)
theorem Sub.drop (l : List DRecord) (k : Nat) : Sub (l.drop k) l := by
  induction k generalizing l with
  | zero => exact .refl l
  | succ k ih =>
    cases l with
    | nil => exact .nil _
    | cons a l => exact .skip a (ih l)
theorem Sub.once {l x : List DRecord} (h : onceL l = some x) : Sub x l := by
  unfold onceL at h
  cases hp : pairL l with
  | none => rw [hp] at h; simp at h
  | some p =>
    rw [hp] at h
    simp only [Option.map_eq_some_iff] at h
    obtain ⟨a, h1, h2⟩ := h
    have hlt := pairL_lt hp
    subst h2
    have e1 : l.take p.2 = l.take p.1 ++ (l.take p.2).drop p.1 := by
      conv => lhs; rw [← List.take_append_drop p.1 (l.take p.2)]
      rw [List.take_take, Nat.min_eq_left (by omega)]
    have e2 : l = l.take p.1 ++ (l.take p.2).drop p.1 ++ l.drop p.2 := by
      rw [← e1, List.take_append_drop]
    have : Sub (onceAt l p.1 p.2 a.1.2.1) (l.take p.1 ++ (l.take p.2).drop p.1 ++ l.drop p.2) := by
      unfold onceAt
      refine ((Sub.refl _).app ((Sub.filter _ _).trans ?_)).app ?_
      · rw [← List.drop_drop]; exact Sub.drop _ _
      · rw [← List.drop_drop]; exact Sub.drop _ _
    rw [← e2] at this
    exact this
theorem Sub.opt : ∀ (m : Nat) (l : List DRecord), Sub (optN m l) l
  | 0, l => .refl l
  | m + 1, l => by
    rw [optN]
    cases h : onceL l with
    | none => exact .refl l
    | some x => exact (Sub.opt m x).trans (Sub.once h)
theorem Sub.need : ∀ l : List DRecord, Sub (needL l) l
  | [] => .nil _
  | a :: t => by
    rw [needL]
    cases cmlB a && t.any (sameC a) with
    | true => exact .skip a (Sub.need t)
    | false => exact .keep a (Sub.need t)
theorem Sub.any {p : DRecord → Bool} {x y : List DRecord} (h : Sub x y) (hy : y.any p = false) : x.any p = false := by
  induction h with
  | nil l => rfl
  | keep a h ih =>
    rw [List.any_cons, Bool.or_eq_false_iff] at hy ⊢
    exact ⟨hy.1, ih hy.2⟩
  | skip a h ih =>
    rw [List.any_cons, Bool.or_eq_false_iff] at hy
    exact ih hy.2
/-- every record is needed -/
def Need : List DRecord → Prop
  | [] => True
  | a :: t => (cmlB a && t.any (sameC a)) = false ∧ Need t
theorem Need.of : ∀ l : List DRecord, Need (needL l)
  | [] => trivial
  | a :: t => by
    rw [needL]
    cases h : cmlB a && t.any (sameC a) with
    | true => exact Need.of t
    | false =>
      refine ⟨?_, Need.of t⟩
      cases hc : cmlB a with
      | false => rfl
      | true =>
        rw [hc, Bool.true_and] at h
        rw [Bool.true_and]
        exact (Sub.need t).any h
theorem Need.sub {x y : List DRecord} (h : Sub x y) : Need y → Need x := by
  induction h with
  | nil l => exact fun _ => trivial
  | keep a h ih =>
    intro hy
    refine ⟨?_, ih hy.2⟩
    have h1 := hy.1
    cases hc : cmlB a with
    | false => rfl
    | true =>
      rw [hc, Bool.true_and] at h1
      rw [Bool.true_and]
      exact h.any h1
  | skip a h ih => exact fun hy => ih hy.2
theorem Need.eq : ∀ {l : List DRecord}, Need l → needL l = l
  | [], _ => rfl
  | a :: t, h => by rw [needL, h.1, Need.eq h.2]; rfl
theorem optL_twice (l : List DRecord) (hl : l.length ≤ 1000) : optL (optL l) = optL l := by
  have h1 : Need (optL l) := Need.sub (Sub.opt 1000 (needL l)) (Need.of l)
  have h2 : onceL (optL l) = none := optN_end 1000 (needL l) (by have := needL_len l; omega)
  have h3 : ∀ m, optN m (optL l) = optL l := by
    intro m
    cases m with
    | zero => rfl
    | succ m => rw [optN, h2]
  conv => lhs; rw [optL, h1.eq]
  exact h3 1000
theorem CmlTwice_pure (l : List DRecord) (h0 : Ty.wf (.slB .U false TRecord) l) : law08_CmlTwice.f 300000 l = some true := by
  unfold law08_CmlTwice.f
  rw [few_run]
  have hl : (l.take 40).length ≤ 40 := by simp; omega
  generalize l.take 40 = x at hl
  have hx := optL_len x
  simp only [Option.bind_some]
  rw [show law08_live.f 300000 = some true from live_ok 299940, opt_run _ (by omega) _ (by omega)]
  simp only [Option.bind_some]
  rw [opt_run _ (by omega) _ (by omega), Clean_run _ (by omega) _ (by omega), optL_twice _ (by omega)]
  simp only [Option.bind_some]
  rw [Same_run _ (by omega) _ _ (by omega)]
  simp only [Option.bind_some, cond_true, decide_true]
  rw [decide_eq_true (by omega)]
/-! what is left stands in the log -/
theorem part_loop (n : Nat) (hn : 1000 < n) (hlive : law08_live.f n = some true) (l : List DRecord) (hl : l.length ≤ 1000) (x : List DRecord) (hx : x.length ≤ 1000) : ∀ (k i j : Nat), i ≤ l.length → l.length - i < k → j ≤ x.length → Sub (x.drop j) (l.drop i) →
    law08_CmlPart.l2 n k l x (j : Int) (i : Int) = some true
  | 0, i, j, _, h, _, _ => by omega
  | k + 1, i, j, hi, h, hj, hs => by
    have hend : j = x.length → law08_CmlPart.j1 n x (j : Int) = some true := by
      intro e
      rw [law08_CmlPart.j1, hlive]
      simp only [Option.bind_some, cond_true]
      rw [decide_eq_true (by omega)]
    rw [law08_CmlPart.l2, bAnd]
    by_cases hlt : i < l.length
    · by_cases hjt : j < x.length
      · have hd : l.drop i = l[i] :: l.drop (i + 1) := List.drop_eq_getElem_cons hlt
        have hg : l[i]? = some l[i] := List.getElem?_eq_getElem hlt
        have hd2 : x.drop j = x[j] :: x.drop (j + 1) := List.drop_eq_getElem_cons hjt
        have hg2 : x[j]? = some x[j] := List.getElem?_eq_getElem hjt
        generalize l[i] = a at hg hd
        generalize x[j] = b at hg2 hd2
        have hw : IntKind.i64.wrap ((i : Int) + 1) = ((i + 1 : Nat) : Int) := by rw [i64_wrap (by omega) (by omega)]; omega
        have hw2 : IntKind.i64.wrap ((j : Int) + 1) = ((j + 1 : Nat) : Int) := by rw [i64_wrap (by omega) (by omega)]; omega
        rw [decide_eq_true (show (i : Int) < (l.length : Int) by omega), decide_eq_true (show (j : Int) < (x.length : Int) by omega)]
        simp only [Bool.and_self, Option.bind_some, cond_true, idxN hg, idxN hg2]
        rw [eqR]
        rw [hd, hd2] at hs
        by_cases he : a = b
        · rw [decide_eq_true he, cond_true, law08_CmlPart.j3, hw, hw2]
          refine part_loop n hn hlive l hl x hx k (i + 1) (j + 1) (by omega) (by omega) (by omega) ?_
          subst he
          cases hs with
          | keep _ hs => exact hs
          | skip _ hs => exact (Sub.skip _ (Sub.refl _)).trans hs
        · rw [decide_eq_false he, cond_false, law08_CmlPart.j3, hw]
          refine part_loop n hn hlive l hl x hx k (i + 1) j (by omega) (by omega) (by omega) ?_
          cases hs with
          | keep _ hs => exact absurd rfl he
          | skip _ hs => rw [hd2]; exact hs
      · rw [decide_eq_false (show ¬ (j : Int) < (x.length : Int) by omega), Bool.and_false]
        exact hend (by omega)
    · rw [decide_eq_false (show ¬ (i : Int) < (l.length : Int) by omega), Bool.false_and]
      refine hend ?_
      rw [List.drop_of_length_le (show l.length ≤ i by omega)] at hs
      cases hq : x.drop j with
      | nil => have := congrArg List.length hq; rw [List.length_drop] at this; simp at this; omega
      | cons b t => rw [hq] at hs; cases hs
theorem CmlPart_pure (l : List DRecord) (h0 : Ty.wf (.slB .U false TRecord) l) : law08_CmlPart.f 300000 l = some true := by
  unfold law08_CmlPart.f
  rw [few_run]
  have hl : (l.take 40).length ≤ 40 := by simp; omega
  generalize l.take 40 = x at hl
  have hx := optL_len x
  simp only [Option.bind_some]
  rw [opt_run _ (by omega) _ (by omega)]
  simp only [Option.bind_some]
  exact part_loop 300000 (by omega) (live_ok 299940) x (by omega) (optL x) (by omega) 300000 0 0 (by omega) (by omega) (by omega) ((Sub.opt 1000 (needL x)).trans (Sub.need x))
end Go.Proofs.Ytggidaedacngbaa.S
