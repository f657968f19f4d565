/- Logs: Optimise, of the program and of the document. -/
import Derived.Test.YtggidaedacngbaaCmD
set_option linter.unusedVariables false
set_option linter.unusedSimpArgs false
namespace Go.Proofs.Ytggidaedacngbaa.S
open Go Go.Proofs Go.Proofs.Bw

def sameC (a b : DRecord) : Bool := decide (b.1.1 = a.1.1) && decide (b.1.2.1 = a.1.2.1)
def needL : List DRecord → List DRecord
  | [] => []
  | a :: t => bif cmlB a && t.any (sameC a) then needL t else a :: needL t
def optN : Nat → List DRecord → List DRecord
  | 0, l => l
  | k + 1, l => match onceL l with
    | none => l
    | some x => optN k x
theorem once_len {l x : List DRecord} (h : onceL l = some x) : x.length + 2 ≤ l.length := by
  unfold onceL at h
  cases hp : pairL l with
  | none => rw [hp] at h; simp at h
  | some p =>
    rw [hp] at h
    simp only [Option.map_eq_some_iff] at h
    obtain ⟨a, h1, h2⟩ := h
    have := pairL_lt hp
    subst h2
    unfold onceAt
    have hf := List.length_filter_le (fun e => !touB e a.1.2.1) ((l.take p.2).drop (p.1 + 1))
    simp only [List.length_append, List.length_drop, List.length_take] at hf ⊢
    omega
theorem needL_len : ∀ l : List DRecord, (needL l).length ≤ l.length
  | [] => by simp [needL]
  | a :: t => by
    have := needL_len t
    rw [needL]
    cases cmlB a && t.any (sameC a) <;> simp <;> omega
theorem optN_len : ∀ (m : Nat) (l : List DRecord), (optN m l).length ≤ l.length
  | 0, l => by simp [optN]
  | m + 1, l => by
    rw [optN]
    cases h : onceL l with
    | none => simp
    | some x =>
      have := once_len h
      have := optN_len m x
      simp only; omega
theorem optN_end : ∀ (m : Nat) (l : List DRecord), l.length ≤ m → onceL (optN m l) = none
  | 0, l, h => by
    rw [optN]
    cases hl : onceL l with
    | none => rfl
    | some x => have := once_len hl; omega
  | m + 1, l, h => by
    rw [optN]
    cases hl : onceL l with
    | none => exact hl
    | some x => have := once_len hl; exact optN_end m x (by omega)
theorem onceL_none {l : List DRecord} (h : onceL l = none) : pairL l = none := by
  unfold onceL at h
  cases hp : pairL l with
  | none => rfl
  | some p =>
    have := pairL_lt hp
    rw [hp] at h
    simp only [List.getElem?_eq_getElem (show p.1 < l.length by omega)] at h
    simp at h

/-! the document's -/
theorem rneed_l2 (n : Nat) (l : List DRecord) (hl : l.length ≤ 1000) {a : DRecord} {i : Nat} (ha : l[i]? = some a) : ∀ (k j : Nat), j ≤ l.length → l.length - j < k →
    r08_needed.l2 n k l (i : Int) a.1.1 (j : Int) = some (!(l.drop j).any (sameC a))
  | 0, j, _, h => by omega
  | k + 1, j, hj, h => by
    rw [r08_needed.l2]
    by_cases hlt : j < l.length
    · have hd : l.drop j = l[j] :: l.drop (j + 1) := List.drop_eq_getElem_cons hlt
      have hg : l[j]? = some l[j] := List.getElem?_eq_getElem hlt
      generalize l[j] = b at hg hd
      have ih := rneed_l2 n l hl ha k (j + 1) (by omega) (by omega)
      rw [decide_eq_true (show (j : Int) < (l.length : Int) by omega), cond_true, hd, List.any_cons]
      simp only [idxN hg, idxN ha, bAnd, Option.bind_some]
      have hs : (decide (b.1.1 = a.1.1) && decide (b.1.2.1 = a.1.2.1)) = sameC a b := rfl
      rw [hs]
      cases sameC a b with
      | true => rfl
      | false =>
        simp only [cond_false, r08_needed.j3, Bool.false_or]
        rw [i64_wrap (by omega) (by omega), show (j : Int) + 1 = ((j + 1 : Nat) : Int) by omega, ih]
    · rw [decide_eq_false (by omega), cond_false, List.drop_of_length_le (by omega)]
      rfl
theorem rneed_run (n : Nat) (hn : 1000 < n) (l : List DRecord) (hl : l.length ≤ 1000) {a : DRecord} {i : Nat} (ha : l[i]? = some a) (hi : i < l.length) : r08_needed.f n l (i : Int) = some (!(cmlB a && (l.drop (i + 1)).any (sameC a))) := by
  unfold r08_needed.f
  simp only [idxN ha, bAnd, Option.bind_some]
  rw [show (!decide (a.1.1 = (8 : Int)) && !decide (a.1.1 = (9 : Int))) = !cmlB a by unfold cmlB; cases decide (a.1.1 = (8 : Int)) <;> rfl]
  cases cmlB a with
  | false => rfl
  | true =>
    simp only [Bool.not_true, cond_false, Bool.true_and]
    rw [i64_wrap (by omega) (by omega), show (i : Int) + 1 = ((i + 1 : Nat) : Int) by omega]
    exact rneed_l2 n l hl ha n (i + 1) (by omega) (by omega)
theorem ropt_l2 (n : Nat) (hn : 1000 < n) : ∀ (k m : Nat) (l : List DRecord), l.length < k → l.length ≤ m → l.length ≤ 1000 → r08_Optimise.l2 n k l = some (optN m l)
  | 0, m, l, h, _, _ => by omega
  | k + 1, m, l, h, hm, hl => by
    rw [r08_Optimise.l2, ronce_run n hn l hl]
    cases ho : onceL l with
    | none =>
      cases m with
      | zero => rfl
      | succ m => rw [optN, ho]; rfl
    | some x =>
      have := once_len ho
      obtain ⟨m, rfl⟩ : ∃ q, m = q + 1 := ⟨m - 1, by omega⟩
      rw [optN, ho]
      simp only [Option.bind_some, Bool.not_true, cond_false]
      exact ropt_l2 n hn k m x (by omega) (by omega) (by omega)
theorem ropt_l3 (n : Nat) (hn : 1000 < n) (l : List DRecord) (hl : l.length ≤ 1000) : ∀ (k i : Nat) (acc : List DRecord), i ≤ l.length → l.length - i < k → acc.length ≤ i →
    r08_Optimise.l3 n k l acc (i : Int) = r08_Optimise.j1 n (acc ++ needL (l.drop i))
  | 0, i, acc, _, h, _ => by omega
  | k + 1, i, acc, hi, h, hacc => by
    rw [r08_Optimise.l3]
    by_cases hlt : i < l.length
    · have hd : l.drop i = l[i] :: l.drop (i + 1) := List.drop_eq_getElem_cons hlt
      have hg : l[i]? = some l[i] := List.getElem?_eq_getElem hlt
      generalize l[i] = a at hg hd
      have ih := fun acc' h' => ropt_l3 n hn l hl k (i + 1) acc' (by omega) (by omega) h'
      have hw : IntKind.i64.wrap ((i : Int) + 1) = ((i + 1 : Nat) : Int) := by rw [i64_wrap (by omega) (by omega)]; omega
      rw [decide_eq_true (show (i : Int) < (l.length : Int) by omega), cond_true, hd, needL, rneed_run n hn l hl hg hlt]
      simp only [Option.bind_some, idxN hg]
      cases cmlB a && (l.drop (i + 1)).any (sameC a) with
      | true =>
        simp only [Bool.not_true, cond_false, cond_true, r08_Optimise.j4]
        rw [hw, ih _ (by omega)]
      | false =>
        simp only [Bool.not_false, cond_true, cond_false, r08_Optimise.j4]
        rw [appK_in (by simp; omega), hw, ih _ (by simp; omega)]
        simp
    · rw [decide_eq_false (by omega), cond_false, List.drop_of_length_le (by omega), needL, List.append_nil]
def optL (l : List DRecord) : List DRecord := optN 1000 (needL l)
theorem ropt_run (n : Nat) (hn : 1000 < n) (l : List DRecord) (hl : l.length ≤ 1000) : r08_Optimise.f n l = some (optL l) := by
  have h := ropt_l3 n hn l hl n 0 [] (by omega) (by omega) (by simp)
  rw [List.nil_append, List.drop_zero] at h
  refine h.trans ?_
  have := needL_len l
  exact ropt_l2 n hn n 1000 (needL l) (by omega) (by omega) (by omega)

/-! the program's -/
theorem grow_run (n : Nat) (m : Int) (h0 : 0 ≤ m) (h1 : m ≤ 3000) : slices_Grow.f n () m = some [] := by
  unfold slices_Grow.f
  rw [decide_eq_false (by omega), cond_false]
  have h2 : IntKind.i64.wrap ((0 : Int) - (0 : Int)) = 0 := by rw [i64_wrap (by omega) (by omega)]; rfl
  have h3 : IntKind.i64.wrap (m - IntKind.i64.wrap ((0 : Int) - (0 : Int))) = m := by rw [h2, i64_wrap (by omega) (by omega)]; omega
  rw [h3]
  by_cases hm : 0 < m
  · rw [decide_eq_true hm, cond_true, sliceK_in (by omega) (by omega) (by omega), geK_in h0, appK_in (by omega), sliceK_in (by omega) (by omega) (by omega)]
    simp [slices_Grow.j1]
  · rw [decide_eq_false hm]; rfl
theorem concat_run (n : Nat) (hn : 1000 < n) (a b c : List DRecord) (ha : a.length ≤ 1000) (hb : b.length ≤ 1000) (hc : c.length ≤ 1000) : slices_Concat.f n [a, b, c] = some (a ++ b ++ c) := by
  obtain ⟨m, rfl⟩ : ∃ m, n = m + 4 := ⟨n - 4, by omega⟩
  have i0 : ∀ (R : Type) (f : List DRecord → Option R), idxK [a, b, c] (0 : Int) f = f a := fun R f => idxK_at (by omega) rfl
  have i1 : ∀ (R : Type) (f : List DRecord → Option R), idxK [a, b, c] (1 : Int) f = f b := fun R f => idxK_at (by omega) rfl
  have i2 : ∀ (R : Type) (f : List DRecord → Option R), idxK [a, b, c] (2 : Int) f = f c := fun R f => idxK_at (by omega) rfl
  have w1 : IntKind.i64.wrap ((0 : Int) + 1) = 1 := by rw [i64_wrap (by omega) (by omega)]; rfl
  have w2 : IntKind.i64.wrap ((1 : Int) + 1) = 2 := by rw [i64_wrap (by omega) (by omega)]; rfl
  have w3 : IntKind.i64.wrap ((2 : Int) + 1) = 3 := by rw [i64_wrap (by omega) (by omega)]; rfl
  have s1 : IntKind.i64.wrap ((0 : Int) + (a.length : Int)) = (a.length : Int) := by rw [i64_wrap (by omega) (by omega)]; omega
  have s2 : IntKind.i64.wrap ((a.length : Int) + (b.length : Int)) = (a.length : Int) + (b.length : Int) := by rw [i64_wrap (by omega) (by omega)]
  have s3 : IntKind.i64.wrap ((a.length : Int) + (b.length : Int) + (c.length : Int)) = (a.length : Int) + (b.length : Int) + (c.length : Int) := by rw [i64_wrap (by omega) (by omega)]
  have l3 : (([a, b, c] : List (List DRecord)).length : Int) = 3 := rfl
  unfold slices_Concat.f
  rw [l3, slices_Concat.l5, show decide ((0 : Int) < 3) = true from rfl, cond_true, i0, s1, decide_eq_false (by omega), cond_false, slices_Concat.j6, w1]
  rw [slices_Concat.l5, show decide ((1 : Int) < 3) = true from rfl, cond_true, i1, s2, decide_eq_false (by omega), cond_false, slices_Concat.j6, w2]
  rw [slices_Concat.l5, show decide ((2 : Int) < 3) = true from rfl, cond_true, i2, s3, decide_eq_false (by omega), cond_false, slices_Concat.j6, w3]
  rw [slices_Concat.l5, show decide ((3 : Int) < 3) = false from rfl, cond_false, slices_Concat.j1, grow_run _ _ (by omega) (by omega)]
  simp only [Option.bind_some]
  rw [l3, slices_Concat.l3, show decide ((0 : Int) < 3) = true from rfl, cond_true, i0, appK_in (by simp; omega), slices_Concat.j4, w1]
  rw [slices_Concat.l3, show decide ((1 : Int) < 3) = true from rfl, cond_true, i1, appK_in (by simp; omega), slices_Concat.j4, w2]
  rw [slices_Concat.l3, show decide ((2 : Int) < 3) = true from rfl, cond_true, i2, appK_in (by simp; omega), slices_Concat.j4, w3]
  rw [slices_Concat.l3, show decide ((3 : Int) < 3) = false from rfl, cond_false, slices_Concat.j2, List.nil_append]
theorem opt_l4 (n : Nat) (hn : 1000 < n) : ∀ (k m : Nat) (l : List DRecord), l.length < k → l.length ≤ m → l.length ≤ 1000 → ((cml_pair.f n l).bind fun r1 => cml_Optimise.l4 n k l r1.1 r1.2.1 r1.2.2.1) = some (optN m l)
  | 0, m, l, h, _, _ => by omega
  | k + 1, m, l, h, hm, hl => by
    rw [pair_run n hn l hl]
    cases hp : pairL l with
    | none =>
      have ho : onceL l = none := by unfold onceL; rw [hp]
      cases m with
      | zero => rfl
      | succ m => rw [optN, ho]; rfl
    | some p =>
      have hlt := pairL_lt hp
      have ho : onceL l = some (onceAt l p.1 p.2 (l[p.1]'(by omega)).1.2.1) := by
        unfold onceL
        rw [hp]
        simp only [List.getElem?_eq_getElem (show p.1 < l.length by omega), Option.map_some]
      have hlen := once_len ho
      obtain ⟨m, rfl⟩ : ∃ q, m = q + 1 := ⟨m - 1, by omega⟩
      have hg : l[p.1]? = some (l[p.1]'(by omega)) := List.getElem?_eq_getElem (by omega)
      rw [optN, ho]
      generalize (l[p.1]'(by omega)) = a at hg hlen
      simp only [Option.bind_some]
      rw [cml_Optimise.l4, cond_true, idxN hg]
      have hw1 : IntKind.i64.wrap ((p.1 : Int) + 1) = ((p.1 + 1 : Nat) : Int) := by rw [i64_wrap (by omega) (by omega)]; omega
      have hw2 : IntKind.i64.wrap ((p.2 : Int) + 1) = ((p.2 + 1 : Nat) : Int) := by rw [i64_wrap (by omega) (by omega)]; omega
      rw [hw1, hw2, sliceK_in (by omega) (by omega) (by omega)]
      have c1 : cut l ((p.1 + 1 : Nat) : Int) (p.2 : Int) = (l.take p.2).drop (p.1 + 1) := rfl
      have c2 : cut l 0 (p.1 : Int) = l.take p.1 := rfl
      have c3 : cut l ((p.2 + 1 : Nat) : Int) (l.length : Int) = l.drop (p.2 + 1) := by
        unfold cut; rw [Int.toNat_natCast, Int.toNat_natCast, List.take_of_length_le (by omega)]
      rw [c1, c2, c3, Clone_run n _ (by rw [List.length_drop, List.length_take]; omega)]
      simp only [Option.bind_some]
      rw [slices_DeleteFunc_31_run n hn (a.1.2.1, ()) (fun e => touB e a.1.2.1) _ (by rw [List.length_drop, List.length_take]; omega) (fun e => Opt1_run n hn e a.1.2.1)]
      simp only [Option.bind_some]
      have hf := List.length_filter_le (fun e => !touB e a.1.2.1) ((l.take p.2).drop (p.1 + 1))
      rw [List.length_drop, List.length_take] at hf
      rw [sliceK_in (by omega) (by omega) (by omega), sliceK_in (by omega) (by omega) (by omega), concat_run n hn _ _ _ (by rw [List.length_take]; omega) (by omega) (by rw [List.length_drop]; omega)]
      simp only [Option.bind_some, cml_Optimise.j5]
      exact opt_l4 n hn k m _ (by unfold onceAt at hlen; omega) (by unfold onceAt at hlen; omega) (by unfold onceAt at hlen; omega)
/-! the last record of a content -/
def isC (c : Dcontent) (r : DRecord) : Bool := cmlB r && decide (keyR r = c)
def lastF (c : Dcontent) : Int → List DRecord → Option Int
  | _, [] => none
  | i, r :: t => match lastF c (i + 1) t with
    | some j => some j
    | none => bif isC c r then some i else none
theorem eqvC (x y : Dcontent) : eqv Tcontent x y = decide (x = y) := by
  obtain ⟨a, b, u⟩ := x
  obtain ⟨c, d, v⟩ := y
  rw [Bool.eq_iff_iff]
  simp [eqv, eqI]
theorem get_set (c d : Dcontent) (z : Int) : ∀ m : List (Dcontent × Int), mapGet1 d (mapSet1 c z m) = bif decide (d = c) then some z else mapGet1 d m
  | [] => by
    have : mapGet1 d (mapSet1 c z []) = bif eqv Tcontent d c then some z else none := rfl
    rw [this, eqvC]; rfl
  | p :: m => by
    have ih := get_set c d z m
    have h1 : mapSet1 c z (p :: m) = bif eqv Tcontent c p.1 then (c, z) :: m else p :: mapSet1 c z m := rfl
    have h2 : ∀ q (m' : List (Dcontent × Int)), mapGet1 d (q :: m') = bif eqv Tcontent d q.1 then some q.2 else mapGet1 d m' := fun q m' => rfl
    rw [h1, h2 p m, eqvC, eqvC]
    by_cases h : c = p.1
    · rw [decide_eq_true h, cond_true, h2, eqvC]
      by_cases h' : d = c
      · rw [decide_eq_true h']; rfl
      · rw [decide_eq_false h', decide_eq_false (show ¬ d = p.1 from fun e => h' (by rw [e, h]))]; rfl
    · rw [decide_eq_false h, cond_false, h2, eqvC, ih]
      by_cases h' : d = p.1
      · rw [decide_eq_true h', decide_eq_false (show ¬ d = c from fun e => h (by rw [← e, h']))]; rfl
      · rw [decide_eq_false h']; rfl
theorem lastF_snoc (c : Dcontent) (r : DRecord) : ∀ (l : List DRecord) (i : Int), lastF c i (l ++ [r]) = bif isC c r then some (i + (l.length : Int)) else lastF c i l
  | [], i => by
    simp [lastF]
  | x :: l, i => by
    rw [List.cons_append, lastF, lastF_snoc c r l (i + 1)]
    cases isC c r with
    | true => simp; omega
    | false => simp only [cond_false]; rw [lastF]
theorem lastF_none (c : Dcontent) : ∀ (l : List DRecord) (i : Int), l.any (isC c) = false → lastF c i l = none
  | [], i, _ => rfl
  | x :: l, i, h => by
    rw [List.any_cons, Bool.or_eq_false_iff] at h
    rw [lastF, lastF_none c l (i + 1) h.2, h.1]; rfl
theorem lastF_some (c : Dcontent) : ∀ (l : List DRecord) (i : Int), l.any (isC c) = true → ∃ j, lastF c i l = some j ∧ i ≤ j
  | [], i, h => by simp at h
  | x :: l, i, h => by
    rw [List.any_cons, Bool.or_eq_true] at h
    rw [lastF]
    cases ha : l.any (isC c) with
    | true =>
      obtain ⟨j, h1, h2⟩ := lastF_some c l (i + 1) ha
      exact ⟨j, by rw [h1], by omega⟩
    | false =>
      rw [lastF_none c l (i + 1) ha]
      rw [ha] at h
      have hx : isC c x = true := by simpa using h
      exact ⟨i, by simp only [hx]; rfl, by omega⟩
theorem lastF_app (c : Dcontent) (v : List DRecord) : ∀ (u : List DRecord) (i : Int), lastF c i (u ++ v) = match lastF c (i + (u.length : Int)) v with
    | some j => some j
    | none => lastF c i u
  | [], i => by
    simp only [List.nil_append, List.length_nil]
    rw [show i + ((0 : Nat) : Int) = i by omega]
    cases lastF c i v <;> rfl
  | x :: u, i => by
    rw [List.cons_append, lastF, lastF_app c v u (i + 1), List.length_cons, show i + 1 + (u.length : Int) = i + ((u.length + 1 : Nat) : Int) by omega]
    cases lastF c (i + ((u.length + 1 : Nat) : Int)) v with
    | some j => rfl
    | none => rw [lastF]
theorem isC_same {a : DRecord} (h : cmlB a = true) (b : DRecord) : isC (keyR a) b = sameC a b := by
  unfold isC sameC keyR
  rw [Bool.eq_iff_iff]
  simp only [Bool.and_eq_true, decide_eq_true_eq, Prod.mk.injEq, and_true]
  constructor
  · exact fun e => e.2
  · intro e
    refine ⟨?_, e⟩
    unfold cmlB at h ⊢
    rw [e.1]; exact h
theorem opt_keep {l : List DRecord} {a : DRecord} {i : Nat} (hi : i < l.length) (hd : l.drop i = a :: l.drop (i + 1)) (hc : cmlB a = true) : optM (lastF (keyR a) 0 l) (some (decide ((0 : Int) = (i : Int)))) (fun m4 => some (decide (m4 = (i : Int)))) = some (!(l.drop (i + 1)).any (sameC a)) := by
  have hl : l = l.take i ++ l.drop i := (List.take_append_drop i l).symm
  have hlen : (l.take i).length = i := by rw [List.length_take]; omega
  have ha : isC (keyR a) a = true := by unfold isC; rw [hc]; simp
  have hany : (l.drop (i + 1)).any (sameC a) = (l.drop (i + 1)).any (isC (keyR a)) := by
    congr 1; funext b; exact (isC_same hc b).symm
  rw [hl, lastF_app, hlen, ← hl, hd, lastF, hany]
  cases h : (l.drop (i + 1)).any (isC (keyR a)) with
  | false =>
    rw [lastF_none _ _ _ h]
    simp only [ha, cond_true, optM]
    rw [decide_eq_true (by omega)]; rfl
  | true =>
    obtain ⟨j, h1, h2⟩ := lastF_some (keyR a) _ (0 + (i : Int) + 1) h
    rw [h1]
    simp only [optM]
    rw [decide_eq_false (by omega)]; rfl
theorem opt_l6 (n : Nat) (hn : 1000 < n) (l : List DRecord) (hl : l.length ≤ 1000) (m : List (Dcontent × Int)) (hm : ∀ c, mapGet1 c m = lastF c 0 l) : ∀ (k i : Nat) (acc : List DRecord), i ≤ l.length → l.length - i < k → acc.length ≤ i →
    cml_Optimise.l6 n k m acc l (l.length : Int) (i : Int) = cml_Optimise.j2 n (acc ++ needL (l.drop i))
  | 0, i, acc, _, h, _ => by omega
  | k + 1, i, acc, hi, h, hacc => by
    rw [cml_Optimise.l6]
    by_cases hlt : i < l.length
    · have hd : l.drop i = l[i] :: l.drop (i + 1) := List.drop_eq_getElem_cons hlt
      have hg : l[i]? = some l[i] := List.getElem?_eq_getElem hlt
      generalize l[i] = a at hg hd
      have ih := fun acc' h' => opt_l6 n hn l hl m hm k (i + 1) acc' (by omega) (by omega) h'
      have hw : IntKind.i64.wrap ((i : Int) + 1) = ((i + 1 : Nat) : Int) := by rw [i64_wrap (by omega) (by omega)]; omega
      rw [decide_eq_true (show (i : Int) < (l.length : Int) by omega), cond_true]
      simp only [idxN hg, pme, of_run, Option.bind_some, hm]
      have hg3 : (bif !cmlB a then some true else optM (lastF (keyR a) 0 l) (some (decide ((0 : Int) = (i : Int)))) fun m4 => some (decide (m4 = (i : Int)))) = some (!(cmlB a && (l.drop (i + 1)).any (sameC a))) := by
        cases hc : cmlB a with
        | false => rfl
        | true =>
          simp only [Bool.not_true, cond_false, Bool.true_and]
          exact opt_keep hlt hd hc
      rw [hg3, hd, needL]
      simp only [Option.bind_some]
      cases cmlB a && (l.drop (i + 1)).any (sameC a) with
      | true =>
        simp only [Bool.not_true, cond_false, cond_true, cml_Optimise.j7]
        rw [hw, ih _ (by omega)]
      | false =>
        simp only [Bool.not_false, cond_true, cond_false, cml_Optimise.j7]
        rw [appK_in (by simp; omega), hw, ih _ (by simp; omega)]
        simp
    · rw [decide_eq_false (by omega), cond_false, List.drop_of_length_le (by omega), needL, List.append_nil]
theorem opt_l8 (n : Nat) (hn : 1000 < n) (l : List DRecord) (hl : l.length ≤ 1000) : ∀ (k i : Nat) (m : List (Dcontent × Int)), i ≤ l.length → l.length - i < k → (∀ c, mapGet1 c m = lastF c 0 (l.take i)) →
    ∃ m', (∀ c, mapGet1 c m' = lastF c 0 l) ∧ cml_Optimise.l8 n k l m l (l.length : Int) (i : Int) = cml_Optimise.j1 n l m'
  | 0, i, m, _, h, _ => by omega
  | k + 1, i, m, hi, h, hm => by
    rw [cml_Optimise.l8]
    by_cases hlt : i < l.length
    · have hs : l.take (i + 1) = l.take i ++ [l[i]] := List.take_succ_eq_append_getElem hlt
      have hg : l[i]? = some l[i] := List.getElem?_eq_getElem hlt
      have hlen : (l.take i).length = i := by rw [List.length_take]; omega
      generalize l[i] = a at hg hs
      have ih := fun m' h' => opt_l8 n hn l hl k (i + 1) m' (by omega) (by omega) h'
      have hw : IntKind.i64.wrap ((i : Int) + 1) = ((i + 1 : Nat) : Int) := by rw [i64_wrap (by omega) (by omega)]; omega
      rw [decide_eq_true (show (i : Int) < (l.length : Int) by omega), cond_true]
      simp only [idxN hg, pme, of_run, Option.bind_some]
      cases hc : cmlB a with
      | true =>
        simp only [cond_true, cml_Optimise.j9]
        rw [hw]
        refine ih _ fun c => ?_
        rw [get_set, hm, hs, lastF_snoc, hlen, isC, hc, Bool.true_and, show decide (keyR a = c) = decide (c = keyR a) from decide_eq_decide.2 eq_comm, Int.zero_add]
      | false =>
        simp only [cond_false, cml_Optimise.j9]
        rw [hw]
        refine ih _ fun c => ?_
        rw [hm, hs, lastF_snoc, isC, hc]; rfl
    · rw [decide_eq_false (by omega), cond_false]
      refine ⟨m, ?_, rfl⟩
      rw [List.take_of_length_le (by omega)] at hm
      exact hm
theorem opt_run (n : Nat) (hn : 1000 < n) (l : List DRecord) (hl : l.length ≤ 1000) : cml_Optimise.f n l = some (optL l) := by
  obtain ⟨m', h1, h2⟩ := opt_l8 n hn l hl n 0 [] (by omega) (by omega) (fun c => rfl)
  refine Eq.trans h2 ?_
  have h3 := opt_l6 n hn l hl m' h1 n 0 [] (by omega) (by omega) (by simp)
  rw [List.nil_append, List.drop_zero] at h3
  refine Eq.trans h3 ?_
  have := needL_len l
  exact opt_l4 n hn n 1000 (needL l) (by omega) (by omega) (by omega)
theorem optL_len (l : List DRecord) : (optL l).length ≤ l.length := by
  have := needL_len l
  have := optN_len 1000 (needL l)
  unfold optL; omega
end Go.Proofs.Ytggidaedacngbaa.S
