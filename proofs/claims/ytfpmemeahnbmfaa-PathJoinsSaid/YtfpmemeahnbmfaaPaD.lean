/- The laws of paths, in plain words: each answers true. -/
import Derived.Test.YtfpmemeahnbmfaaPaC
set_option linter.unusedVariables false
set_option linter.unusedSimpArgs false
namespace Go.Proofs.Ytfpmemeahnbmfaa.S
open Go Go.Proofs Go.Proofs.Bw

theorem len_le_flatten : ∀ {l : List (List Int)} {p : List Int}, p ∈ l → p.length ≤ l.flatten.length
  | q :: r, p, h => by
    rw [List.flatten_cons, List.length_append]
    rcases List.mem_cons.1 h with rfl | h
    · omega
    · have := len_le_flatten h; omega
theorem wf_strs {z : Nm} {b : Bool} {l : List (List Int)} (h : Ty.wf (.slB z b .str) l) : Byts l ∧ ∀ p ∈ l, p.length ≤ maxLen := ⟨fun p hp => (byt_wf (h.2 p hp)).1, fun p hp => (byt_wf (h.2 p hp)).2⟩
theorem PathJoins_one (n : Nat) (hn : 1000 < n) (l : List (List Int)) (hb : Byts l) (hm : ∀ p ∈ l, p.length < n ∧ p.length ≤ maxLen) (hl : l.length ≤ 200) : law02_PathJoins.j1 n l = some true := by
  unfold law02_PathJoins.j1
  rw [Join_run n hn l hb (by omega), rJoin_run n l hn hm (by omega), live_run n hn]
  simp
theorem PathJoins_pure (l : List (List Int)) (h : Ty.wf (.slB .U false .str) l) : law02_PathJoins.f (300000 + l.flatten.length) l = some true := by
  obtain ⟨hb, hm⟩ := wf_strs h
  have hm' : ∀ p ∈ l, p.length < 300000 + l.flatten.length ∧ p.length ≤ maxLen := fun p hp => ⟨by have := len_le_flatten hp; omega, hm p hp⟩
  unfold law02_PathJoins.f
  by_cases hl : (200 : Int) < (l.length : Int)
  · rw [decide_eq_true hl, cond_true, sliceK_in (by omega) (by omega) (by omega)]
    have e : cut l 0 (200 : Int) = l.take 200 := by unfold cut; rfl
    rw [e]
    exact PathJoins_one _ (by omega) _ (fun p hp => hb p (List.mem_of_mem_take hp)) (fun p hp => hm' p (List.mem_of_mem_take hp)) (by simp; omega)
  · rw [decide_eq_false hl, cond_false]
    exact PathJoins_one _ (by omega) _ hb hm' (by omega)

theorem Clean_one (n : Nat) (hn : 1000 < n) (s : List Int) (hs : Byt s) : law02_PathClean.j2 n s = some true := by
  unfold law02_PathClean.j2
  rw [Clean_run n hn s hs, live_run n hn]
  cases h1 : splitV s with
  | none => rfl
  | some a =>
    obtain ⟨k1, k2, k3, k4⟩ := split_inv h1
    have hj := split_jn k1 (by omega)
    simp only [outC, Option.bind_some, decide_true, Bool.not_true, cond_false]
    rw [Clean_run n hn _ (jn_byt k1), Split_run n hn s hs, Split_run n hn _ (jn_byt k1), h1, hj]
    simp only [outC, outS, Option.bind_some, decide_true, cond_true]
    rw [Same_run n hn a a (by have := split_len h1; omega)]
    have hlen : (jn a).length ≤ s.length := by
      by_cases ha : a = []
      · subst ha
        have := List.length_pos_iff.2 k4
        simp [jn, joinV]
        omega
      · rw [jn_len ha]; exact k2
    simp only [Option.bind_some, decide_true, cond_true]
    rw [decide_eq_true (by omega)]
theorem Clean_two (n : Nat) (hn : 1000 < n) (s : List Int) (hs : Byt s) (l : List (List Int)) (hb : Byts l) (hl : l.length ≤ 200) : law02_PathClean.j1 n s l = some true := by
  unfold law02_PathClean.j1
  rw [Join_run n hn l hb (by omega), outJ]
  cases hj : okJ l with
  | false =>
    simp only [cond_false, Option.bind_some]
    exact Clean_one n hn s hs
  | true =>
    have hj' := hj
    simp only [okJ, Bool.and_eq_true, decide_eq_true_eq] at hj'
    simp only [cond_true, Option.bind_some, decide_true]
    rw [Split_run n hn _ (jn_byt hj'.1), split_jn hj'.1 hj'.2]
    simp only [outS, Option.bind_some, decide_true, Bool.not_true, cond_false]
    rw [Same_run n hn l l (by omega)]
    simp only [Option.bind_some, decide_true, Bool.not_true, cond_false]
    exact Clean_one n hn s hs
theorem PathClean_pure (s : List Int) (l : List (List Int)) (h0 : Ty.wf .str s) (h : Ty.wf (.slB .U false .str) l) : law02_PathClean.f 300000 s l = some true := by
  obtain ⟨hb, hm⟩ := wf_strs h
  obtain ⟨hs, _⟩ := byt_wf h0
  unfold law02_PathClean.f
  by_cases hl : (200 : Int) < (l.length : Int)
  · rw [decide_eq_true hl, cond_true, sliceK_in (by omega) (by omega) (by omega)]
    have e : cut l 0 (200 : Int) = l.take 200 := by unfold cut; rfl
    rw [e]
    exact Clean_two _ (by omega) s hs _ (fun p hp => hb p (List.mem_of_mem_take hp)) (by simp; omega)
  · rw [decide_eq_false hl, cond_false]
    exact Clean_two _ (by omega) s hs _ hb (by omega)

theorem below_self (s : List Int) : belowV s s = false := by
  unfold belowV
  cases splitV s with
  | none => rfl
  | some a => simp
theorem below_some {s t : List Int} (h : belowV s t = true) : ∃ a b, splitV s = some a ∧ splitV t = some b ∧ b.length < a.length ∧ a.take b.length = b := by
  unfold belowV at h
  revert h
  cases splitV s <;> cases splitV t <;> intro h <;> first | (cases h) | skip
  simp only [Bool.and_eq_true, decide_eq_true_eq] at h
  exact ⟨_, _, rfl, rfl, h.1, h.2⟩
theorem below_mk {s t : List Int} {a b : List (List Int)} (ha : splitV s = some a) (hb : splitV t = some b) (hl : b.length < a.length) (ht : a.take b.length = b) : belowV s t = true := by
  unfold belowV
  rw [ha, hb]
  simp [hl, ht]
theorem below_trans {s t u : List Int} (h1 : belowV s t = true) (h2 : belowV t u = true) : belowV s u = true := by
  obtain ⟨a, b, ha, hb, hl, ht⟩ := below_some h1
  obtain ⟨b', c, hb', hc, hl2, ht2⟩ := below_some h2
  rw [hb] at hb'
  injection hb' with hb'
  subst hb'
  refine below_mk ha hc (by omega) ?_
  rw [← ht2, ← ht, List.take_take]
  congr 1
  simp
  omega
theorem below_anti {s t : List Int} (h1 : belowV s t = true) : belowV t s = false := by
  cases h2 : belowV t s with
  | false => rfl
  | true =>
    have := below_trans h1 h2
    rw [below_self] at this
    cases this
theorem PathOrder_pure (a b c : List Int) (ha : Ty.wf .str a) (hb : Ty.wf .str b) (hc : Ty.wf .str c) : law02_PathOrder.f 300000 a b c = some true := by
  have ha := (byt_wf ha).1
  have hb := (byt_wf hb).1
  have hc := (byt_wf hc).1
  unfold law02_PathOrder.f
  rw [live_run _ (by omega), Below_run _ (by omega) a a ha ha, Below_run _ (by omega) a b ha hb, Below_run _ (by omega) b c hb hc, Below_run _ (by omega) a c ha hc, Below_run _ (by omega) b a hb ha, below_self]
  cases h1 : belowV a b with
  | false => rfl
  | true =>
    rw [below_anti h1]
    cases h2 : belowV b c with
    | false => rfl
    | true => rw [below_trans h1 h2]; rfl

theorem name_more {s : List Int} (h : nameB s = true) : nameB (s ++ [97]) = decide ((s.length : Int) < 12) := by
  obtain ⟨h1, h2, h3, h4, h5⟩ := nameB_all h
  have ha : (s ++ [97]).all chB = true := by
    rw [List.all_append, List.all_eq_true.2 h5]
    rfl
  unfold nameB
  rw [ha]
  have e1 : ¬ s ++ [97] = [] := by simp
  have e2 : ¬ s ++ [97] = [46] := fun e => by
    have := congrArg List.getLast? e
    simp at this
  have e3 : ¬ s ++ [97] = [46, 46] := fun e => by
    have := congrArg List.getLast? e
    simp at this
  rw [decide_eq_false e1, decide_eq_false e2, decide_eq_false e3, List.length_append]
  by_cases h12 : (s.length : Int) < 12
  · rw [decide_eq_true h12, decide_eq_false (by simp only [List.length_cons, List.length_nil]; omega)]
    rfl
  · rw [decide_eq_false h12, decide_eq_true (by simp only [List.length_cons, List.length_nil]; omega)]
    rfl
theorem PathNames_pure (s p : List Int) (h0 : Ty.wf .str s) (h1 : Ty.wf .str p) : law02_PathNames.f (300000 + s.length) s p = some true := by
  obtain ⟨hs, hm⟩ := byt_wf h0
  obtain ⟨hp, _⟩ := byt_wf h1
  obtain ⟨n, hn⟩ : ∃ n, n = 300000 + s.length := ⟨_, rfl⟩
  rw [← hn]
  unfold law02_PathNames.f
  rw [Name_run n (by omega) s hs, live_run n (by omega), rName_run n s (by omega) hm, Split_run n (by omega) p hp]
  cases hc : nameB s with
  | false => rfl
  | true =>
    have hl := (nameB_all hc).2.1
    have hb2 : Byt (s ++ [97]) := fun b hb => by
      rcases List.mem_append.1 hb with hb | hb
      · exact hs b hb
      · simp at hb; omega
    have hmx : maxLen = 9223372036854775807 := rfl
    have hnm := Name_run n (by omega) (s ++ [97]) hb2
    simp only [Option.bind_some, Bool.not_true, cond_false]
    cases h1 : splitV p with
    | none =>
      simp only [outS, cond_true]
      rw [leK_in (by simp only [List.length_cons, List.length_nil]; omega), hnm, name_more hc]
      cases decide ((s.length : Int) < 12) <;> rfl
    | some l =>
      have hll := split_len h1
      obtain ⟨k1, k2, k3, k4⟩ := split_inv h1
      simp only [outS, cond_true, decide_true, Bool.not_true, cond_false, List.nil_append]
      rw [appK_in (by simp only [List.length_nil]; omega), appK_in (by simp only [List.length_cons, List.length_nil]; omega)]
      have hall : (l ++ [s]).all nameB = true := by rw [List.all_append, k1]; simp [hc]
      rw [Join_run n (by omega) (l ++ [s]) (all_byts hall) (by simp; omega), leK_in (by simp only [List.length_cons, List.length_nil]; omega), hnm, name_more hc]
      unfold outJ
      cases hj : okJ (l ++ [s]) with
      | false => cases decide ((s.length : Int) < 12) <;> rfl
      | true =>
        have hj' := hj
        simp only [okJ, Bool.and_eq_true, decide_eq_true_eq] at hj'
        simp only [cond_true, Option.bind_some, decide_true, Bool.not_true, cond_false]
        rw [Below_run n (by omega) _ _ (jn_byt hall) hp, below_mk (split_jn hall hj'.2) h1 (by simp) (by simp)]
        cases decide ((s.length : Int) < 12) <;> rfl

theorem PathParts_pure (s : List Int) (h0 : Ty.wf .str s) : law02_PathParts.f 300000 s = some true := by
  obtain ⟨hs, hm⟩ := byt_wf h0
  obtain ⟨n, hn⟩ : ∃ n, n = 300000 := ⟨_, rfl⟩
  rw [← hn]
  unfold law02_PathParts.f
  rw [Dir_run n (by omega) s hs, Base_run n (by omega) s hs, live_run n (by omega), Clean_run n (by omega) s hs]
  cases h1 : splitV s with
  | none => rfl
  | some l =>
    by_cases hl : l = []
    · subst hl; rfl
    · have hll := split_len h1
      obtain ⟨k1, k2, k3, k4⟩ := split_inv h1
      have hok := okJ_dropLast (okJ_split h1)
      simp only [okJ, Bool.and_eq_true, decide_eq_true_eq] at hok
      have hd := split_jn hok.1 hok.2
      have hbd := jn_byt hok.1
      have hlast : l.dropLast ++ [l.getLastD []] = l := by
        rw [List.getLastD_eq_getLast?, List.getLast?_eq_some_getLast hl]
        exact List.dropLast_concat_getLast hl
      have hlen : l.dropLast.length < l.length := by rw [List.length_dropLast]; have := List.length_pos_iff.2 hl; omega
      have hbel : belowV s (jn l.dropLast) = true := below_mk h1 hd hlen (by rw [List.length_dropLast, List.dropLast_eq_take])
      simp only [outD, outB, if_neg hl, outC, Option.bind_some, decide_true, Bool.not_true, cond_false, cond_true]
      rw [Split_run n (by omega) _ hbd, hd]
      simp only [outS, Option.bind_some, List.nil_append]
      rw [appK_in (by simp only [List.length_nil]; omega), appK_in (by simp only [List.length_cons, List.length_nil]; omega), hlast, Join_ok n (by omega) (okJ_split h1), Below_run n (by omega) _ _ hs hbd, Below_run n (by omega) _ _ hbd hs, hbel, below_anti hbel]
      simp
end Go.Proofs.Ytfpmemeahnbmfaa.S
