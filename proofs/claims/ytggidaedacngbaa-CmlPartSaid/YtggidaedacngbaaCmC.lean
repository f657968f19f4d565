/- Logs: CmlCuts. -/
import Derived.Test.YtggidaedacngbaaCmB
set_option linter.unusedVariables false
set_option linter.unusedSimpArgs false
namespace Go.Proofs.Ytggidaedacngbaa.S
open Go Go.Proofs Go.Proofs.Bw

theorem rCut_loop (n : Nat) (l : List DRecord) (hl : l.length ≤ 1000) (m : Int) : ∀ (k i : Nat), i ≤ clampN m l.length → clampN m l.length - i < k → r08_Cut.l2 n k l m (l.take i) (i : Int) = some (l.take (clampN m l.length))
  | 0, i, _, h => by omega
  | k + 1, i, hi, h => by
    have hc : clampN m l.length ≤ l.length := by unfold clampN; omega
    rw [r08_Cut.l2]
    by_cases hlt : i < clampN m l.length
    · have hlt2 : i < l.length := by omega
      have hm : (i : Int) < m := by unfold clampN at hlt; omega
      have hg : l[i]? = some l[i] := List.getElem?_eq_getElem hlt2
      have hs : l.take (i + 1) = l.take i ++ [l[i]] := List.take_succ_eq_append_getElem hlt2
      generalize l[i] = e at hg hs
      rw [decide_eq_true (show (i : Int) < (l.length : Int) by omega), decide_eq_true hm]
      simp only [cond_true, Option.bind_some]
      rw [idxK_at (e := e) (by omega) (by simpa using hg), appK_in (by simp; omega), r08_Cut.j3, i64_wrap (by omega) (by omega), show (i : Int) + 1 = ((i + 1 : Nat) : Int) by omega, ← hs]
      exact rCut_loop n l hl m k (i + 1) (by omega) (by omega)
    · have he : i = clampN m l.length := by omega
      have : (bif decide ((i : Int) < (l.length : Int)) then some (decide ((i : Int) < m)) else some false) = some false := by
        by_cases h1 : (i : Int) < (l.length : Int)
        · rw [decide_eq_true h1, cond_true, decide_eq_false (by unfold clampN at he; omega)]
        · rw [decide_eq_false h1]; rfl
      rw [this]
      simp only [Option.bind_some, cond_false, r08_Cut.j1]
      rw [he]
theorem rCut_run (n : Nat) (hn : 1000 < n) (l : List DRecord) (hl : l.length ≤ 1000) (m : Int) : r08_Cut.f n l m = some (l.take (clampN m l.length)) := by
  have hc : clampN m l.length ≤ l.length := by unfold clampN; omega
  exact rCut_loop n l hl m n 0 (by omega) (by omega)
theorem rDrop_loop (n : Nat) (l : List DRecord) (hl : l.length ≤ 1000) (m : Int) : ∀ (k i : Nat), i ≤ l.length → l.length - i < k → r08_Drop.l2 n k l m ((l.take i).drop (clampN m l.length)) (i : Int) = some (l.drop (clampN m l.length))
  | 0, i, _, h => by omega
  | k + 1, i, hi, h => by
    rw [r08_Drop.l2]
    by_cases hlt : i < l.length
    · have hg : l[i]? = some l[i] := List.getElem?_eq_getElem hlt
      have hs : l.take (i + 1) = l.take i ++ [l[i]] := List.take_succ_eq_append_getElem hlt
      have hli : (l.take i).length = i := by rw [List.length_take]; omega
      have ih := rDrop_loop n l hl m k (i + 1) (by omega) (by omega)
      generalize l[i] = e at hg hs
      rw [decide_eq_true (show (i : Int) < (l.length : Int) by omega), cond_true]
      by_cases hm : m ≤ (i : Int)
      · have hci : clampN m l.length ≤ i := by unfold clampN; omega
        rw [decide_eq_true hm, cond_true, idxK_at (e := e) (by omega) (by simpa using hg), appK_in (by simp; omega), r08_Drop.j3, i64_wrap (by omega) (by omega), show (i : Int) + 1 = ((i + 1 : Nat) : Int) by omega, ← ih, hs]
        congr 1
        rw [List.drop_append_of_le_length (by omega)]
      · have hci : i < clampN m l.length := by unfold clampN; omega
        rw [decide_eq_false hm, cond_false, r08_Drop.j3, i64_wrap (by omega) (by omega), show (i : Int) + 1 = ((i + 1 : Nat) : Int) by omega, ← ih]
        congr 1
        rw [List.drop_of_length_le (by omega), List.drop_of_length_le (by rw [List.length_take]; omega)]
    · rw [decide_eq_false (by omega), cond_false, r08_Drop.j1, List.take_of_length_le (by omega)]
theorem rDrop_run (n : Nat) (hn : 1000 < n) (l : List DRecord) (hl : l.length ≤ 1000) (m : Int) : r08_Drop.f n l m = some (l.drop (clampN m l.length)) := by
  have := rDrop_loop n l hl m n 0 (by omega) (by omega)
  rw [List.take_zero, List.drop_nil] at this
  exact this
theorem rSame_loop (n : Nat) (a b : List DRecord) (he : a.length = b.length) (hl : a.length ≤ 1000) : ∀ k i : Nat, i ≤ a.length → a.length - i < k → r08_Same.l2 n k a b (i : Int) = some (decide (a.drop i = b.drop i))
  | 0, i, _, h => by omega
  | k + 1, i, hi, h => by
    rw [r08_Same.l2]
    by_cases hlt : i < a.length
    · have hlt2 : i < b.length := by omega
      have hd : a.drop i = a[i] :: a.drop (i + 1) := List.drop_eq_getElem_cons hlt
      have hd2 : b.drop i = b[i] :: b.drop (i + 1) := List.drop_eq_getElem_cons hlt2
      have hg : a[i]? = some a[i] := List.getElem?_eq_getElem hlt
      have hg2 : b[i]? = some b[i] := List.getElem?_eq_getElem hlt2
      generalize a[i] = c at hd hg
      generalize b[i] = d at hd2 hg2
      rw [decide_eq_true (show (i : Int) < (a.length : Int) by omega), cond_true, idxK_at (e := c) (by omega) (by simpa using hg), idxK_at (e := d) (by omega) (by simpa using hg2), hd, hd2, eqR]
      by_cases hcd : c = d
      · rw [decide_eq_true hcd]
        simp only [Bool.not_true, cond_false]
        unfold r08_Same.j3
        rw [i64_wrap (by omega) (by omega), show (i : Int) + 1 = ((i + 1 : Nat) : Int) by omega, rSame_loop n a b he hl k (i + 1) (by omega) (by omega)]
        simp [hcd]
      · rw [decide_eq_false hcd]
        simp [hcd]
    · rw [decide_eq_false (show ¬ (i : Int) < (a.length : Int) by omega), List.drop_of_length_le (by omega), List.drop_of_length_le (by omega)]
      rfl
theorem rSame_run (n : Nat) (hn : 1000 < n) (a b : List DRecord) (hl : a.length ≤ 1000) : r08_Same.f n a b = some (decide (a = b)) := by
  unfold r08_Same.f
  by_cases h : a.length = b.length
  · rw [decide_eq_true (by omega)]
    simp only [Bool.not_true, cond_false]
    exact rSame_loop n a b h hl n 0 (by omega) (by omega)
  · rw [decide_eq_false (by omega), decide_eq_false (fun e => h (by rw [e]))]
    rfl
theorem Ops_loop (n : Nat) (l : List DRecord) (hl : l.length ≤ 1000) : ∀ (k i : Nat), i ≤ l.length → l.length - i < k → cml_Ops.l2 n k ((l.take i).map (·.1)) l (l.length : Int) (i : Int) = some (l.map (·.1))
  | 0, i, _, h => by omega
  | k + 1, i, hi, h => by
    rw [cml_Ops.l2]
    by_cases hlt : i < l.length
    · have hg : l[i]? = some l[i] := List.getElem?_eq_getElem hlt
      have hs : l.take (i + 1) = l.take i ++ [l[i]] := List.take_succ_eq_append_getElem hlt
      have ih := Ops_loop n l hl k (i + 1) (by omega) (by omega)
      generalize l[i] = e at hg hs
      rw [decide_eq_true (show (i : Int) < (l.length : Int) by omega), cond_true, idxK_at (e := e) (by omega) (by simpa using hg), appK_in (by simp; omega), cml_Ops.j3, i64_wrap (by omega) (by omega), show (i : Int) + 1 = ((i + 1 : Nat) : Int) by omega, ← ih, hs]
      simp
    · rw [decide_eq_false (by omega), cond_false, cml_Ops.j1, List.take_of_length_le (by omega)]
theorem Ops_run (n : Nat) (hn : 1000 < n) (l : List DRecord) (hl : l.length ≤ 1000) : cml_Ops.f n l = some (l.map (·.1)) := by
  unfold cml_Ops.f mkK
  rw [if_pos ⟨by omega, by omega, by omega⟩]
  exact Ops_loop n l hl n 0 (by omega) (by omega)
theorem cuts_three (m : Nat) (hm : 2000 ≤ m) (l a b : List DRecord) (hl : l.length ≤ 40) (hab : a ++ b = l) : ∀ (k i : Nat), i ≤ l.length → l.length - i < k → law08_CmlCuts.l3 (m + 60) k l a b (l.map (·.1)) (i : Int) = some true
  | 0, i, _, h => by omega
  | k + 1, i, hi, h => by
    have hlab : a.length + b.length = l.length := by rw [← List.length_append, hab]
    rw [law08_CmlCuts.l3]
    by_cases hlt : i < l.length
    · have hg : l[i]? = some l[i] := List.getElem?_eq_getElem hlt
      generalize l[i] = e at hg
      rw [decide_eq_true (show (i : Int) < (l.length : Int) by omega), cond_true, decide_eq_false (by simp; omega), cond_false, idxK_at (e := e.1) (by omega) (by simp [hg]), idxK_at (e := e) (by omega) (by simpa using hg)]
      simp only [Option.bind_some, eqI, eqS, decide_true, Bool.true_and, Bool.not_true, cond_false, law08_CmlCuts.j4]
      rw [i64_wrap (by omega) (by omega), show (i : Int) + 1 = ((i + 1 : Nat) : Int) by omega]
      exact cuts_three m hm l a b hl hab k (i + 1) (by omega) (by omega)
    · rw [decide_eq_false (by omega), cond_false, law08_CmlCuts.j2, live_ok]
      simp only [Option.bind_some, cond_true, List.length_map, decide_true, List.nil_append]
      rw [appK_in (by simp; omega), appK_in (by omega), hab, Same_run _ (by omega) _ _ (by omega)]
      simp
theorem bbeq_self (b : Bool) : bbeq b b = true := by cases b <;> rfl
theorem cuts_five (m : Nat) (hm : 2000 ≤ m) (l a b : List DRecord) (f : Int) (hl : l.length ≤ 40) (hab : a ++ b = l) : ∀ (k i : Nat), i ≤ l.length → l.length - i < k → law08_CmlCuts.l5 (m + 60) k l f a b (i : Int) = some true
  | 0, i, _, h => by omega
  | k + 1, i, hi, h => by
    rw [law08_CmlCuts.l5]
    by_cases hlt : i < l.length
    · have hg : l[i]? = some l[i] := List.getElem?_eq_getElem hlt
      generalize l[i] = e at hg
      have h1 : cml_Touches.f (m + 60) ((e.1.1, e.1.2.1, e.1.2.2.1, e.1.2.2.2.1, e.1.2.2.2.2.1, e.1.2.2.2.2.2.1, e.1.2.2.2.2.2.2.1, e.1.2.2.2.2.2.2.2.1, e.1.2.2.2.2.2.2.2.2), e.2.1, e.2.2) f = some (touB e f) := Touches_run _ (by omega) e f
      have h2 : r08_Touches.f (m + 60) ((e.1.1, e.1.2.1, e.1.2.2.1, e.1.2.2.2.1, e.1.2.2.2.2.1, e.1.2.2.2.2.2.1, e.1.2.2.2.2.2.2.1, e.1.2.2.2.2.2.2.2.1, e.1.2.2.2.2.2.2.2.2), e.2.1, e.2.2) f = some (touB e f) := rTouches_run _ (by omega) e f
      rw [decide_eq_true (show (i : Int) < (l.length : Int) by omega), cond_true, idxK_at (e := e) (by omega) (by simpa using hg), h1]
      simp only [Option.bind_some]
      rw [idxK_at (e := e) (by omega) (by simpa using hg), h2]
      simp only [Option.bind_some, bbeq_self, Bool.not_true, cond_false, law08_CmlCuts.j6]
      rw [i64_wrap (by omega) (by omega), show (i : Int) + 1 = ((i + 1 : Nat) : Int) by omega]
      exact cuts_five m hm l a b f hl hab k (i + 1) (by omega) (by omega)
    · rw [decide_eq_false (by omega), cond_false, law08_CmlCuts.j1, Ops_run _ (by omega) _ (by omega)]
      simp only [Option.bind_some]
      exact cuts_three m hm l a b hl hab (m + 60) 0 (by omega) (by omega)
theorem CmlCuts_pure (l : List DRecord) (c f : Int) (h0 : Ty.wf (.slB .U false TRecord) l) (h1 : Ty.wf (.int .i64) c) (h2 : Ty.wf (.int .u32) f) : law08_CmlCuts.f 300000 l c f = some true := by
  unfold law08_CmlCuts.f
  rw [few_run]
  have hl : (l.take 40).length ≤ 40 := by simp; omega
  generalize l.take 40 = x at hl
  simp only [Option.bind_some]
  rw [Cut_run _ _ (by omega), Drop_run _ _ (by omega), rCut_run _ (by omega) _ (by omega)]
  simp only [Option.bind_some]
  rw [rSame_run _ (by omega) _ _ (by simp; omega), rDrop_run _ (by omega) _ (by omega)]
  simp only [Option.bind_some, decide_true, Bool.not_true, cond_false]
  rw [rSame_run _ (by omega) _ _ (by simp; omega)]
  simp only [Option.bind_some, decide_true, Bool.not_true, cond_false]
  exact cuts_five 299940 (by decide) x _ _ f hl (List.take_append_drop _ _) 300000 0 (by omega) (by omega)
end Go.Proofs.Ytggidaedacngbaa.S
