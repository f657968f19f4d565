/- Paths: the document's Split by strings.Split, and what stands on it. -/
import Derived.Test.YtfpmemeahnbmfaaDoorPaC
set_option linter.unusedVariables false
set_option linter.unusedSimpArgs false
namespace Go.Proofs.YtfpmemeahnbmfaaDoor.S
open Go Go.Proofs Go.Proofs.Bw

theorem inKa {R : Type} {i : Int} {n : Nat} {K : Option R} (h0 : 0 ≤ i) (h1 : i < (n : Int)) : inK' i n K = K := by simp [inK', h0, h1]
theorem cnt_brk (x : List Int) : match brk x with
    | (_, none) => cntV x 47 = 0
    | (_, some r) => cntV x 47 = cntV r 47 + 1 := by
  induction x with
  | nil => rfl
  | cons b l ih =>
    by_cases h : b = 47
    · simp [brk, h, cntV]
    · simp only [brk, h, if_false, cntV]
      revert ih
      rcases brk l with ⟨p, _ | r⟩ <;> exact id
theorem set_at {α : Type} (a : List α) (x : α) (b : List α) (y : α) : (a ++ x :: b).set a.length y = a ++ y :: b := by
  induction a with
  | nil => rfl
  | cons c a ih => simp [ih]
theorem gen_loop (n : Nat) : ∀ (m k : Nat) (x : List Int) (pre : List (List Int)), cntV x 47 = (m : Int) → m < k → x.length + pre.length + m ≤ 2000 →
    strings_genSplit.l3 n k x [47] 0 ((pre.length + m : Nat) : Int) (pre ++ List.replicate (m + 1) ([] : List Int)) (pre.length : Int) = some (pre ++ pieces x) := by
  intro m
  induction m with
  | zero =>
    intro k x pre hm hk hl
    obtain ⟨k, rfl⟩ : ∃ j, k = j + 1 := ⟨k - 1, by omega⟩
    have hb := brk_spec x
    have hc := cnt_brk x
    have hp := pieces_brk x
    revert hb hc hp
    rcases brk x with ⟨p, _ | r⟩
    · rintro ⟨rfl, h2⟩ _ hp
      rw [strings_genSplit.l3, decide_eq_false (by omega), cond_false, strings_genSplit.j2, inKa (by omega) (by simp; omega), idxK_at (e := ([] : List Int)) (by omega) (by simp), i64_wrap (by omega) (by omega)]
      have e1 : lset (pre ++ List.replicate (0 + 1) ([] : List Int)) (pre.length : Int) p = pre ++ [p] := by
        show (pre ++ List.replicate 1 ([] : List Int)).set (pre.length : Int).toNat p = _
        rw [Int.toNat_natCast]; exact set_at pre [] [] p
      rw [e1, sliceK_in (by omega) (by omega) (by simp), hp]
      have e2 : ((pre.length : Int) + 1).toNat = (pre ++ [p]).length := by simp
      rw [e2, List.take_length]
    · rintro ⟨rfl, h2⟩ hc _
      have := cntV_le 47 r
      simp only at hc
      omega
  | succ m ih =>
    intro k x pre hm hk hl
    obtain ⟨k, rfl⟩ : ∃ j, k = j + 1 := ⟨k - 1, by omega⟩
    have hb := brk_spec x
    have hc := cnt_brk x
    have hp := pieces_brk x
    revert hb hc hp
    rcases brk x with ⟨p, _ | r⟩
    · rintro ⟨rfl, h2⟩ hc _
      simp only at hc
      omega
    · rintro ⟨rfl, h2⟩ hc hp
      simp only at hc hp
      have hidx : (if p ++ 47 :: r = [47] then (0 : Int) else ibsV (p ++ 47 :: r) 47) = (p.length : Int) := by
        rw [h2]; split
        · rename_i e
          cases p with
          | nil => rfl
          | cons c p => simp at e
        · rfl
      simp only [List.length_append, List.length_cons] at hl
      rw [strings_genSplit.l3, decide_eq_true (by omega), cond_true, strings_Index.f, Index_run, hidx]
      simp only [Option.bind_some]
      rw [decide_eq_false (by omega), cond_false, i64_wrap (by omega) (by omega), sliceK_in (by omega) (by omega) (by simp; omega), inKa (by omega) (by simp; omega), idxK_at (e := ([] : List Int)) (by omega) (by simp [List.replicate_succ])]
      rw [i64_wrap (x := (p.length : Int) + (([47] : List Int).length : Int)) (by simp; omega) (by simp; omega), sliceK_in (by simp; omega) (by simp; omega) (by omega), i64_wrap (by omega) (by omega)]
      have e1 : lset (pre ++ List.replicate (m + 1 + 1) ([] : List Int)) (pre.length : Int) (cut (p ++ 47 :: r) 0 ((p.length : Int) + 0)) = (pre ++ [p]) ++ List.replicate (m + 1) ([] : List Int) := by
        have : cut (p ++ 47 :: r) 0 ((p.length : Int) + 0) = p := by unfold cut; simp
        rw [this]
        show (pre ++ List.replicate (m + 1 + 1) ([] : List Int)).set (pre.length : Int).toNat p = _
        rw [Int.toNat_natCast, List.replicate_succ, set_at]; simp
      have e2 : cut (p ++ 47 :: r) ((p.length : Int) + (([47] : List Int).length : Int)) ((p ++ 47 :: r).length : Int) = r := by
        unfold cut
        rw [show ((p.length : Int) + (([47] : List Int).length : Int)).toNat = p.length + 1 by simp, Int.toNat_natCast, List.take_of_length_le (Nat.le_refl _), List.drop_append]
        simp
      rw [e1, e2, hp]
      have := ih k r (pre ++ [p]) (by omega) (by omega) (by simp; omega)
      rw [show ((pre.length + (m + 1) : Nat) : Int) = (((pre ++ [p]).length + m : Nat) : Int) by simp; omega, show (pre.length : Int) + 1 = ((pre ++ [p]).length : Int) by simp, this]
      simp
theorem SplitL_run (n : Nat) (hn : 1000 < n) (x : List Int) (hx : x.length ≤ 500) : strings_Split.f n x [47] = some (pieces x) := by
  have hc := cntV_le 47 x
  obtain ⟨m, hm⟩ : ∃ m : Nat, cntV x 47 = (m : Int) := ⟨(cntV x 47).toNat, by omega⟩
  unfold strings_Split.f strings_genSplit.f
  rw [decide_eq_false (by decide), cond_false, decide_eq_false (by simp), cond_false, decide_eq_true (by decide), cond_true]
  have e0 : strings_Count.f n x [47] = some (m : Int) := by
    unfold strings_Count.f internal_bytealg_CountString.f
    rw [← hm]; rfl
  rw [e0]
  simp only [Option.bind_some, strings_genSplit.j1]
  rw [i64_wrap (by omega) (by omega), i64_wrap (by omega) (by omega)]
  have e1 : imin ((m : Int) + 1) ((x.length : Int) + 1) = (m : Int) + 1 := by unfold imin; split <;> omega
  rw [e1, i64_wrap (by omega) (by omega), show (m : Int) + 1 - 1 = ((([] : List (List Int)).length + m : Nat) : Int) by simp, show ((m : Int) + 1).toNat = m + 1 by omega, mkK, if_pos ⟨by omega, by omega, by omega⟩]
  have := gen_loop n m n x [] hm (by omega) (by simp; omega)
  simp only [List.nil_append, List.length_nil] at this ⊢
  rw [show ((0 : Nat) : Int) = 0 from rfl] at this
  rw [this]; rfl
theorem pieces_lens (x : List Int) : ∀ p ∈ pieces x, p.length ≤ x.length := fun p hp => by
  have h := tot_pieces x
  have : ∀ (l : List (List Int)), p ∈ l → p.length + 1 ≤ tot l := by
    intro l
    induction l with
    | nil => intro h; cases h
    | cons q l ih =>
      intro hm
      simp only [tot]
      rcases List.mem_cons.1 hm with rfl | hm
      · omega
      · have := ih hm; omega
  have := this _ hp
  omega
theorem rSplit_loop (n : Nat) (hn : 1000 < n) (ps : List (List Int)) (hp : ∀ p ∈ ps, p.length ≤ 500) (hl : ps.length ≤ 500) : ∀ (d k i : Nat) (acc : List (List Int)), i + d = ps.length → d < k → acc.length ≤ i →
    r02_Split.l2 n k acc ps (i : Int) = some (outS (foldS (ps.drop i) acc)) := by
  intro d
  induction d with
  | zero =>
    intro k i acc hi hk ha
    obtain ⟨k, rfl⟩ : ∃ j, k = j + 1 := ⟨k - 1, by omega⟩
    rw [r02_Split.l2, decide_eq_false (by omega), cond_false, List.drop_of_length_le (by omega)]
    rfl
  | succ d ih =>
    intro k i acc hi hk ha
    obtain ⟨k, rfl⟩ : ∃ j, k = j + 1 := ⟨k - 1, by omega⟩
    have hlt : i < ps.length := by omega
    have hd : ps.drop i = ps[i] :: ps.drop (i + 1) := List.drop_eq_getElem_cons hlt
    have hg : ps[i]? = some ps[i] := List.getElem?_eq_getElem hlt
    generalize ps[i] = p at hd hg
    have hpl := hp p (List.mem_of_getElem? hg)
    have hw : IntKind.i64.wrap ((i : Int) + 1) = ((i + 1 : Nat) : Int) := by rw [i64_wrap (by omega) (by omega)]; omega
    have step : ∀ acc' : List (List Int), acc'.length ≤ i + 1 → r02_Split.j3 n (r02_Split.l2 n k) acc' ps (i : Int) = some (outS (foldS (ps.drop (i + 1)) acc')) := fun acc' h => by
      unfold r02_Split.j3
      rw [hw]
      exact ih k (i + 1) acc' (by omega) (by omega) h
    rw [r02_Split.l2, decide_eq_true (by omega), cond_true, idxK_at (e := p) (by omega) (by simpa using hg), hd]
    simp only [foldS, stepS]
    by_cases h1 : p = []
    · subst h1
      simp only [decide_true, cond_true, Option.bind_some]
      rw [step acc (by omega)]
      simp
    · by_cases h2 : p = [46]
      · subst h2
        simp only [decide_true, decide_eq_false h1, cond_true, cond_false, Option.bind_some]
        rw [step acc (by omega)]
        simp
      · simp only [decide_eq_false h1, decide_eq_false h2, cond_false, Option.bind_some]
        by_cases h3 : p = [46, 46]
        · rw [decide_eq_true h3, cond_true, if_pos h3]
          by_cases h4 : 0 < acc.length
          · rw [decide_eq_true (by omega), cond_true, i64_wrap (by omega) (by omega), show (acc.length : Int) - 1 = ((acc.length - 1 : Nat) : Int) by omega, sliceK_in (by omega) (by omega) (by omega), Int.toNat_natCast, ← List.dropLast_eq_take, step _ (by simp; omega)]
            rfl
          · have : acc = [] := List.length_eq_zero_iff.1 (by omega)
            subst this
            rw [decide_eq_false (by simp), cond_false, step [] (by simp)]
            rfl
        · rw [decide_eq_false h3, cond_false, if_neg h3, if_neg (by rintro (h | h) <;> contradiction), rName_run n p (by omega) (by have : maxLen = 9223372036854775807 := rfl; omega)]
          simp only [Option.bind_some]
          cases hnm : nameB p with
          | true =>
            rw [cond_true, appK_in (by simp; omega), step _ (by simp; omega)]
            rfl
          | false => rfl
theorem rSplit_run (n : Nat) (hn : 1000 < n) (s : List Int) : r02_Split.f n s = some (outS (splitV s)) := by
  unfold r02_Split.f splitV
  by_cases h0 : s.length = 0
  · have : s = [] := List.length_eq_zero_iff.1 h0
    subst this; rfl
  · by_cases h1 : s.length ≤ 120
    · rw [decide_eq_false (by omega), decide_eq_false (by omega)]
      simp only [cond_false, Option.bind_some]
      cases s with
      | nil => simp at h0
      | cons b r =>
        rw [idxK_at (e := b) (by omega) (by simp)]
        simp only [Option.bind_some, List.head?_cons, List.tail_cons, Option.some.injEq]
        by_cases h2 : b = 47
        · subst h2
          rw [decide_eq_true rfl, if_pos ⟨rfl, h1⟩]
          simp only [Bool.not_true, cond_false]
          simp only [List.length_cons] at h1 ⊢
          rw [sliceK_in (by omega) (by omega) (by omega)]
          have e2 : cut (47 :: r) 1 ((r.length + 1 : Nat) : Int) = r := by
            unfold cut
            rw [Int.toNat_natCast]
            simp
          rw [e2, SplitL_run n hn r (by omega)]
          simp only [Option.bind_some]
          have hl : (pieces r).length ≤ 200 := by
            have := len_le_tot (pieces r)
            rw [tot_pieces] at this
            omega
          exact rSplit_loop n hn (pieces r) (fun p hp => by have := pieces_lens r p hp; omega) (by omega) (pieces r).length n 0 [] (by omega) (by omega) (by simp)
        · rw [decide_eq_false h2, if_neg (fun h => h2 h.1)]
          rfl
    · rw [decide_eq_false (by omega), decide_eq_true (by omega), if_neg (fun h => h1 h.2)]
      rfl
theorem split_parts {s : List Int} {l : List (List Int)} (h : splitV s = some l) : ∀ p ∈ l, p.length ≤ 12 := fun p hp =>
  (nameB_all (List.all_eq_true.1 (split_inv h).1 p hp)).2.1
theorem rJoin_ok (n : Nat) (hn : 1000 < n) {l : List (List Int)} (h : okJ l = true) : r02_Join.f n l = some (jn l, 0, ()) := by
  have h' := h
  simp only [okJ, Bool.and_eq_true, decide_eq_true_eq] at h'
  have := len_le_tot l
  have hm : maxLen = 9223372036854775807 := rfl
  rw [rJoin_run n l hn (fun p hp => by have := (nameB_all (List.all_eq_true.1 h'.1 p hp)).2.1; omega) (by omega), outJ, h]
  rfl
theorem rClean_run (n : Nat) (hn : 1000 < n) (s : List Int) : r02_Clean.f n s = some (outC (splitV s)) := by
  unfold r02_Clean.f
  rw [rSplit_run n hn s]
  cases h1 : splitV s with
  | none => rfl
  | some l =>
    simp only [outS, Option.bind_some, decide_true, Bool.not_true, cond_false]
    rw [rJoin_ok n hn (okJ_split h1)]
    rfl
theorem rDir_run (n : Nat) (hn : 1000 < n) (s : List Int) : r02_Dir.f n s = some (outD (splitV s)) := by
  unfold r02_Dir.f
  rw [rSplit_run n hn s]
  cases h1 : splitV s with
  | none => rfl
  | some l =>
    have la := split_len h1
    simp only [outS, outD, Option.bind_some, decide_true, Bool.not_true, cond_false]
    by_cases h : l = []
    · subst h; rfl
    · have hp := List.length_pos_iff.2 h
      rw [decide_eq_false (by omega), if_neg h, i64_wrap (by omega) (by omega)]
      simp only [cond_false]
      rw [show (l.length : Int) - 1 = ((l.length - 1 : Nat) : Int) by omega, sliceK_in (by omega) (by omega) (by omega)]
      have e2 : cut l 0 ((l.length - 1 : Nat) : Int) = l.dropLast := by unfold cut; rw [List.dropLast_eq_take]; simp
      rw [e2, rJoin_ok n hn (okJ_dropLast (okJ_split h1))]
      rfl
theorem rBase_run (n : Nat) (hn : 1000 < n) (s : List Int) : r02_Base.f n s = some (outB (splitV s)) := by
  unfold r02_Base.f
  rw [rSplit_run n hn s]
  cases h1 : splitV s with
  | none => rfl
  | some l =>
    have la := split_len h1
    simp only [outS, outB, Option.bind_some, decide_true, Bool.not_true, cond_false]
    by_cases h : l = []
    · subst h; rfl
    · have hp := List.length_pos_iff.2 h
      rw [decide_eq_false (by omega), if_neg h, i64_wrap (by omega) (by omega)]
      simp only [cond_false]
      rw [show (l.length : Int) - 1 = ((l.length - 1 : Nat) : Int) by omega, idxK_at (e := l.getLastD []) (by omega) (by
        rw [Int.toNat_natCast, List.getElem?_eq_getElem (by omega)]
        rw [List.getLastD_eq_getLast?, List.getLast?_eq_getElem?, List.getElem?_eq_getElem (by omega)]
        rfl)]
/-! lists of names of any length -/
theorem Same_loopL (n : Nat) (a b : List (List Int)) (he : a.length = b.length) (hl : a.length ≤ maxLen) : ∀ k i : Nat, i ≤ a.length → a.length - i < k → slices_Equal.l2 n k a b (a.length : Int) (i : Int) = some (decide (a.drop i = b.drop i))
  | 0, i, _, h => by omega
  | k + 1, i, hi, h => by
    have hm : maxLen = 9223372036854775807 := rfl
    rw [slices_Equal.l2]
    by_cases hlt : i < a.length
    · have hlt2 : i < b.length := by omega
      have hd : a.drop i = a[i] :: a.drop (i + 1) := List.drop_eq_getElem_cons hlt
      have hd2 : b.drop i = b[i] :: b.drop (i + 1) := List.drop_eq_getElem_cons hlt2
      have hg : a[i]? = some a[i] := List.getElem?_eq_getElem hlt
      have hg2 : b[i]? = some b[i] := List.getElem?_eq_getElem hlt2
      generalize a[i] = c at hd hg
      generalize b[i] = d at hd2 hg2
      rw [decide_eq_true (show (i : Int) < (a.length : Int) by omega), cond_true, idxK_at (e := c) (by omega) (by simpa using hg), idxK_at (e := d) (by omega) (by simpa using hg2), hd, hd2]
      by_cases hcd : c = d
      · rw [decide_eq_true hcd]
        simp only [Bool.not_true, cond_false]
        unfold slices_Equal.j3
        rw [i64_wrap (by omega) (by omega), show (i : Int) + 1 = ((i + 1 : Nat) : Int) by omega, Same_loopL n a b he hl k (i + 1) (by omega) (by omega)]
        simp [hcd]
      · rw [decide_eq_false hcd]
        simp [hcd]
    · rw [decide_eq_false (show ¬ (i : Int) < (a.length : Int) by omega), List.drop_of_length_le (by omega), List.drop_of_length_le (by omega)]
      rfl
theorem Same_runL (n : Nat) (a b : List (List Int)) (hn : a.length < n) (hl : a.length ≤ maxLen) : path_Same.f n a b = some (decide (a = b)) := by
  unfold path_Same.f slices_Equal.f
  by_cases h : a.length = b.length
  · rw [decide_eq_true (by omega)]
    simp only [Bool.not_true, cond_false]
    have : slices_Equal.l2 n n a b (a.length : Int) (0 : Int) = some (decide (a = b)) := Same_loopL n a b h hl n 0 (by omega) (by omega)
    rw [this]
    rfl
  · rw [decide_eq_false (by omega), decide_eq_false (fun e => h (by rw [e]))]
    rfl
theorem rSame_loop (n : Nat) (a b : List (List Int)) (he : a.length = b.length) (hl : a.length ≤ maxLen) : ∀ k i : Nat, i ≤ a.length → a.length - i < k → r02_Same.l2 n k a b (i : Int) = some (decide (a.drop i = b.drop i))
  | 0, i, _, h => by omega
  | k + 1, i, hi, h => by
    have hm : maxLen = 9223372036854775807 := rfl
    rw [r02_Same.l2]
    by_cases hlt : i < a.length
    · have hlt2 : i < b.length := by omega
      have hd : a.drop i = a[i] :: a.drop (i + 1) := List.drop_eq_getElem_cons hlt
      have hd2 : b.drop i = b[i] :: b.drop (i + 1) := List.drop_eq_getElem_cons hlt2
      have hg : a[i]? = some a[i] := List.getElem?_eq_getElem hlt
      have hg2 : b[i]? = some b[i] := List.getElem?_eq_getElem hlt2
      generalize a[i] = c at hd hg
      generalize b[i] = d at hd2 hg2
      rw [decide_eq_true (show (i : Int) < (a.length : Int) by omega), cond_true, idxK_at (e := c) (by omega) (by simpa using hg), idxK_at (e := d) (by omega) (by simpa using hg2), hd, hd2]
      by_cases hcd : c = d
      · rw [decide_eq_true hcd]
        simp only [Bool.not_true, cond_false]
        unfold r02_Same.j3
        rw [i64_wrap (by omega) (by omega), show (i : Int) + 1 = ((i + 1 : Nat) : Int) by omega, rSame_loop n a b he hl k (i + 1) (by omega) (by omega)]
        simp [hcd]
      · rw [decide_eq_false hcd]
        simp [hcd]
    · rw [decide_eq_false (show ¬ (i : Int) < (a.length : Int) by omega), List.drop_of_length_le (by omega), List.drop_of_length_le (by omega)]
      rfl
theorem rSame_run (n : Nat) (a b : List (List Int)) (hn : a.length < n) (hl : a.length ≤ maxLen) : r02_Same.f n a b = some (decide (a = b)) := by
  unfold r02_Same.f
  by_cases h : a.length = b.length
  · rw [decide_eq_true (by omega)]
    simp only [Bool.not_true, cond_false]
    exact rSame_loop n a b h hl n 0 (by omega) (by omega)
  · rw [decide_eq_false (by omega), decide_eq_false (fun e => h (by rw [e]))]
    rfl
theorem rBelow_run (n : Nat) (hn : 1000 < n) (s t : List Int) : r02_Below.f n s t = some (belowV s t) := by
  unfold r02_Below.f belowV
  rw [rSplit_run n hn s, rSplit_run n hn t]
  cases h1 : splitV s with
  | none => cases h2 : splitV t <;> rfl
  | some a =>
    cases h2 : splitV t with
    | none => rfl
    | some b =>
      have la := split_len h1
      have lb := split_len h2
      have hm : maxLen = 9223372036854775807 := rfl
      simp only [outS, Option.bind_some, decide_true, cond_true]
      by_cases hl : b.length < a.length
      · rw [decide_eq_true (by omega), cond_true, sliceK_in (by omega) (by omega) (by omega)]
        have e : cut a 0 (b.length : Int) = a.take b.length := by unfold cut; simp
        rw [e, rSame_run n _ _ (by simp; omega) (by simp; omega), decide_eq_true hl]
        rfl
      · rw [decide_eq_false (by omega), decide_eq_false hl]
        rfl
theorem bbeq_rfl (b : Bool) : bbeq b b = true := by cases b <;> rfl
theorem PathSplits_pure (s : List Int) (h0 : Ty.wf .str s) : law02_PathSplits.f (300000 + s.length) s = some true := by
  obtain ⟨hb, hl⟩ := byt_wf h0
  unfold law02_PathSplits.f
  rw [Split_run _ (by omega) s hb, rSplit_run _ (by omega) s, live_run _ (by omega), Name_run _ (by omega) s hb, rName_run _ s (by omega) hl]
  simp only [Option.bind_some, cond_true]
  have hk : r02_Same.f (300000 + s.length) (outS (splitV s)).1 (outS (splitV s)).1 = some true := by
    have hm : maxLen = 9223372036854775807 := rfl
    cases h : splitV s with
    | none => rw [rSame_run _ _ _ (by simp [outS]; omega) (by simp [outS])]; simp
    | some l =>
      have := split_len h
      rw [rSame_run _ _ _ (by simp [outS]; omega) (by simp [outS]; omega)]; simp
  rw [hk]
  simp [bbeq_rfl]
theorem PathForms_pure (s : List Int) (h0 : Ty.wf .str s) : law02_PathForms.f 300000 s = some true := by
  obtain ⟨hb, _⟩ := byt_wf h0
  unfold law02_PathForms.f
  rw [Clean_run _ (by omega) s hb, rClean_run _ (by omega) s, Dir_run _ (by omega) s hb, rDir_run _ (by omega) s, Base_run _ (by omega) s hb, rBase_run _ (by omega) s, live_run _ (by omega)]
  simp
theorem PathBelow_pure (s t : List Int) (l : List (List (List Int))) (h0 : Ty.wf .str s) (h1 : Ty.wf .str t) (h2 : Ty.wf (.arr 2 (.slB .U false .str)) l) : law02_PathBelow.f (300000 + l.flatten.length) s t l = some true := by
  obtain ⟨hs, _⟩ := byt_wf h0
  obtain ⟨ht, _⟩ := byt_wf h1
  obtain ⟨hl, hw⟩ := h2
  match l, hl, hw with
  | [a, b], _, hw =>
    have hf : ∀ x ∈ ([a, b] : List (List (List Int))), Ty.wf (.slB .U false .str) x := fun x hx => hw x hx
    have ha : Ty.wf (.slB .U false .str) a := hf a (by simp)
    have hla : a.length ≤ maxLen := ha.1
    have hfl : a.length ≤ ([a, b] : List (List (List Int))).flatten.length := by simp
    unfold law02_PathBelow.f
    rw [live_run _ (by omega), Below_run _ (by omega) s t hs ht, rBelow_run _ (by omega) s t]
    have e0 : lnth ([a, b] : List (List (List Int))) 0 = some a := rfl
    have e1 : lnth ([a, b] : List (List (List Int))) 1 = some b := rfl
    simp only [Option.bind_some, cond_true, bbeq_rfl, e0, e1]
    rw [Same_runL _ a b (by omega) hla, rSame_run _ a b (by omega) hla]
    simp [bbeq_rfl, inK']
end Go.Proofs.YtfpmemeahnbmfaaDoor.S
