/- Paths: what a path's text says, in plain words. -/
import Derived.Test.YtfpmemeahnbmfaaDoorPaB
set_option linter.unusedVariables false
set_option linter.unusedSimpArgs false
namespace Go.Proofs.YtfpmemeahnbmfaaDoor.S
open Go Go.Proofs Go.Proofs.Bw

def pieces : List Int → List (List Int)
  | [] => [[]]
  | b :: l => if b = 47 then [] :: pieces l else (match pieces l with
    | p :: r => (b :: p) :: r
    | [] => [[b]])
theorem pieces_brk (x : List Int) : pieces x = match brk x with
    | (p, none) => [p]
    | (p, some r) => p :: pieces r := by
  induction x with
  | nil => rfl
  | cons b l ih =>
    by_cases h : b = 47
    · simp [pieces, brk, h]
    · simp only [pieces, brk, h, if_false, ih]
      rcases brk l with ⟨p, _ | r⟩ <;> rfl
theorem tot_pieces (x : List Int) : tot (pieces x) = x.length + 1 := by
  induction x with
  | nil => rfl
  | cons b l ih =>
    by_cases h : b = 47
    · simp only [pieces, h, if_true, tot, ih, List.length_nil, List.length_cons]; omega
    · simp only [pieces, h, if_false]
      revert ih
      rcases pieces l with _ | ⟨p, r⟩
      · intro ih; simp only [tot] at ih; omega
      · intro ih; simp only [tot, List.length_cons] at ih ⊢; omega
def stepS (acc : List (List Int)) (p : List Int) : Option (List (List Int)) :=
  if p = [46, 46] then some acc.dropLast else if p = [] ∨ p = [46] then some acc else if nameB p = true then some (acc ++ [p]) else none
def foldS : List (List Int) → List (List Int) → Option (List (List Int))
  | [], acc => some acc
  | p :: r, acc => (stepS acc p).bind (foldS r)
def outS : Option (List (List Int)) → List (List Int) × Int × Unit
  | some l => (l, 0, ())
  | none => ([], 3, ())
theorem Split_loop (n : Nat) (hn : 12 < n) : ∀ (k : Nat) (x : List Int) (acc : List (List Int)), Byt x → x.length + 1 < k → acc.length + x.length ≤ 900 → path_Split.l2 n k x acc true = some (outS (foldS (pieces x) acc))
  | 0, x, acc, _, h, _ => by omega
  | k + 1, x, acc, hb, hk, hl => by
    have body : ∀ (p rest : List Int) (more : Bool) (R : List (List Int)), Byt p → (∀ acc' : List (List Int), acc'.length ≤ acc.length + 1 → path_Split.l2 n k rest acc' more = some (outS (foldS R acc'))) →
        (bif (decide (p = ([46, 46] : List Int))) then (sliceK 0 (imax (IntKind.i64.wrap ((acc.length : Int) - (1 : Int))) (0 : Int)) acc.length (path_Split.l2 n k rest (acc.take ((imax (IntKind.i64.wrap ((acc.length : Int) - (1 : Int))) (0 : Int))).toNat) more))
  else ((bif (decide (p = ([] : List Int))) then some true else (some (decide (p = ([46] : List Int))))).bind fun g2 =>
  bif g2 then (path_Split.l2 n k rest acc more)
  else ((path_Name.f n p).bind fun r3 => bif (!r3) then (some (([] : List (List Int)), (3 : Int), ()))
  else (appK acc.length ([p] : List (List Int)).length 16 (path_Split.l2 n k rest (acc ++ ([p] : List (List Int))) more))))) = some (outS (foldS (p :: R) acc)) := fun p rest more R hp hc => by
      simp only [foldS, stepS]
      by_cases h1 : p = [46, 46]
      · rw [decide_eq_true h1, cond_true, if_pos h1]
        have e : imax (IntKind.i64.wrap ((acc.length : Int) - 1)) 0 = ((acc.length - 1 : Nat) : Int) := by
          rw [i64_wrap (by omega) (by omega)]; unfold imax; split <;> omega
        rw [e, sliceK_in (by omega) (by omega) (by omega), Int.toNat_natCast, ← List.dropLast_eq_take]
        exact hc _ (by simp; omega)
      · rw [decide_eq_false h1, cond_false, if_neg h1]
        by_cases h2 : p = []
        · rw [decide_eq_true h2, if_pos (.inl h2)]
          exact hc _ (by omega)
        · rw [decide_eq_false h2]
          by_cases h3 : p = [46]
          · rw [decide_eq_true h3, if_pos (.inr h3)]
            exact hc _ (by omega)
          · rw [decide_eq_false h3, if_neg (fun hh => hh.elim h2 h3), Name_run n hn p hp]
            simp only [cond_false, Option.bind_some]
            cases h4 : nameB p with
            | false => simp [outS]
            | true =>
              simp only [Bool.not_true, cond_false, if_true, Option.bind_some]
              rw [appK_in (by simp only [List.length_cons, List.length_nil]; omega)]
              exact hc _ (by simp)
    rw [path_Split.l2, cond_true, Cut_run n x (by omega)]
    have hs := brk_spec x
    have hp := pieces_brk x
    revert hs hp
    rcases brk x with ⟨p, _ | r⟩
    · rintro ⟨rfl, _⟩ hp
      simp only at hp
      rw [hp]
      simp only [Option.bind_some]
      refine body p [] false [] hb (fun acc' _ => ?_)
      obtain ⟨k', rfl⟩ : ∃ k', k = k' + 1 := ⟨k - 1, by omega⟩
      rw [path_Split.l2]
      rfl
    · rintro ⟨rfl, _⟩ hp
      simp only at hp
      rw [hp]
      simp only [Option.bind_some]
      simp only [List.length_append, List.length_cons] at hk hl
      exact body p r true (pieces r) (fun b hb' => hb b (by simp [hb'])) (fun acc' ha => Split_loop n hn k r acc' (fun b hb' => hb b (by simp [hb'])) (by omega) (by omega))
def splitV (s : List Int) : Option (List (List Int)) := if s.head? = some 47 ∧ s.length ≤ 120 then foldS (pieces s.tail) [] else none
theorem CutPrefix_run (n : Nat) (s : List Int) : strings_CutPrefix.f n s [47] = some (if s.head? = some 47 then (s.tail, true, ()) else (s, false, ())) := by
  unfold strings_CutPrefix.f internal_stringslite_CutPrefix.f internal_stringslite_HasPrefix.f
  cases s with
  | nil => rfl
  | cons b r =>
    simp only [List.length_cons, List.length_nil]
    rw [decide_eq_true (by omega), cond_true, sliceK_in (by omega) (by omega) (by omega)]
    have e1 : cut (b :: r) 0 (((0 + 1 : Nat) : Int)) = [b] := by unfold cut; rfl
    rw [show decide (cut (b :: r) 0 (((0 + 1 : Nat) : Int)) = [47]) = decide (b = 47) from decide_eq_decide.2 (by rw [e1]; simp)]
    by_cases h : b = 47
    · subst h
      simp only [decide_true, Option.bind_some, Bool.not_true, cond_false, List.head?_cons, if_true, List.tail_cons]
      rw [sliceK_in (by omega) (by omega) (by omega)]
      have e2 : cut (47 :: r) (((0 + 1 : Nat) : Int)) ((r.length + 1 : Nat) : Int) = r := by
        unfold cut
        rw [Int.toNat_natCast, Int.toNat_natCast]
        simp
      rw [e2]
      rfl
    · simp only [decide_eq_false h, Option.bind_some, Bool.not_false, cond_true, List.head?_cons]
      simp [h]
theorem Split_run (n : Nat) (hn : 1000 < n) (s : List Int) (hb : Byt s) : path_Split.f n s = some (outS (splitV s)) := by
  unfold path_Split.f splitV
  rw [CutPrefix_run]
  by_cases h1 : s.head? = some 47
  · simp only [h1, if_true, Option.bind_some, Bool.not_true, cond_false, true_and]
    by_cases h2 : s.length ≤ 120
    · rw [decide_eq_false (by omega), cond_false, if_pos h2]
      have : s.tail.length ≤ 120 := by rw [List.length_tail]; omega
      exact Split_loop n (by omega) n s.tail [] (fun b hb' => hb b (List.mem_of_mem_tail hb')) (by omega) (by simp; omega)
    · rw [decide_eq_true (by omega), cond_true, if_neg h2]
      rfl
  · simp [h1, outS]

/-! what stands for sure -/
theorem chB_in {b : Int} (h : chB b = true) : 0 ≤ b ∧ b ≤ 255 ∧ b ≠ 47 := by
  simp only [chB, Bool.or_eq_true, Bool.and_eq_true, decide_eq_true_eq, Bool.not_eq_true', decide_eq_false_iff_not] at h
  omega
theorem nameB_all {p : List Int} (h : nameB p = true) : p ≠ [] ∧ p.length ≤ 12 ∧ p ≠ [46] ∧ p ≠ [46, 46] ∧ ∀ b ∈ p, chB b = true := by
  simp only [nameB, Bool.and_eq_true, Bool.not_eq_true', Bool.or_eq_false_iff, decide_eq_false_iff_not, List.all_eq_true] at h
  obtain ⟨⟨⟨⟨h1, h2⟩, h3⟩, h4⟩, h5⟩ := h
  exact ⟨h1, by omega, h3, h4, h5⟩
theorem nameB_byt {p : List Int} (h : nameB p = true) : Byt p := fun b hb => by have := chB_in ((nameB_all h).2.2.2.2 b hb); exact ⟨this.1, this.2.1⟩
theorem jt_byt {l : List (List Int)} (h : l.all nameB = true) : Byt (jt l) := by
  induction l with
  | nil => intro b hb; cases hb
  | cons p r ih =>
    simp only [List.all_cons, Bool.and_eq_true] at h
    intro b hb
    simp only [jt, List.cons_append, List.mem_cons, List.mem_append] at hb
    rcases hb with rfl | hb | hb
    · omega
    · exact nameB_byt h.1 b hb
    · exact ih h.2 b hb
theorem jn_byt {l : List (List Int)} (h : l.all nameB = true) : Byt (jn l) := by
  cases l with
  | nil => intro b hb; simp [jn, joinV] at hb; omega
  | cons p r => rw [jn_cons]; exact jt_byt h
theorem all_byts {l : List (List Int)} (h : l.all nameB = true) : Byts l := fun p hp => nameB_byt (List.all_eq_true.1 h p hp)
theorem foldS_inv : ∀ {ps acc l : List (List Int)}, foldS ps acc = some l → acc.all nameB = true → l.all nameB = true ∧ tot l ≤ tot acc + tot ps
  | [], acc, l, h, ha => by simp only [foldS] at h; injection h with h; subst h; exact ⟨ha, by simp [tot]⟩
  | p :: ps, acc, l, h, ha => by
    simp only [foldS] at h
    cases hs : stepS acc p with
    | none => rw [hs] at h; cases h
    | some a =>
      rw [hs] at h
      have : a.all nameB = true ∧ tot a ≤ tot acc + (1 + p.length) := by
        unfold stepS at hs
        split at hs
        · injection hs with hs
          subst hs
          refine ⟨List.all_eq_true.2 fun q hq => List.all_eq_true.1 ha q (List.dropLast_subset _ hq), ?_⟩
          rw [List.dropLast_eq_take]
          have := tot_take_le acc (acc.length - 1)
          omega
        · split at hs
          · injection hs with hs; subst hs; exact ⟨ha, by omega⟩
          · split at hs
            · rename_i hq
              injection hs with hs
              subst hs
              refine ⟨by rw [List.all_append, ha]; simp [hq], ?_⟩
              rw [tot_append]; simp only [tot]; omega
            · cases hs
      obtain ⟨k1, k2⟩ := foldS_inv h this.1
      refine ⟨k1, ?_⟩
      simp only [tot]
      omega
theorem split_inv {s : List Int} {l : List (List Int)} (h : splitV s = some l) : l.all nameB = true ∧ tot l ≤ s.length ∧ s.length ≤ 120 ∧ s ≠ [] := by
  unfold splitV at h
  split at h
  · rename_i hc
    obtain ⟨k1, k2⟩ := foldS_inv h rfl
    rw [tot_pieces] at k2
    have h0 : s ≠ [] := fun e => by rw [e] at hc; cases hc.1
    have : s.tail.length + 1 = s.length := by rw [List.length_tail]; have := List.length_pos_iff.2 h0; omega
    simp only [tot] at k2
    exact ⟨k1, by omega, hc.2, h0⟩
  · cases h
theorem pieces_one {p : List Int} (h : ∀ b ∈ p, b ≠ 47) : pieces p = [p] := by
  induction p with
  | nil => rfl
  | cons b p ih =>
    have hb : b ≠ 47 := h b (by simp)
    simp only [pieces, hb, if_false, ih (fun x hx => h x (by simp [hx]))]
theorem pieces_app {p : List Int} (h : ∀ b ∈ p, b ≠ 47) (x : List Int) : pieces (p ++ 47 :: x) = p :: pieces x := by
  induction p with
  | nil => simp [pieces]
  | cons b p ih =>
    have hb : b ≠ 47 := h b (by simp)
    simp only [List.cons_append, pieces, hb, if_false, ih (fun x hx => h x (by simp [hx]))]
theorem no47 {p : List Int} (h : nameB p = true) : ∀ b ∈ p, b ≠ 47 := fun b hb => (chB_in ((nameB_all h).2.2.2.2 b hb)).2.2
theorem pieces_join : ∀ {l : List (List Int)}, l ≠ [] → l.all nameB = true → pieces (joinV l [47]) = l
  | [], h, _ => (h rfl).elim
  | [p], _, h => by
    simp only [List.all_cons, List.all_nil, Bool.and_true] at h
    exact pieces_one (no47 h)
  | p :: q :: r, _, h => by
    have h2 : (q :: r).all nameB = true := by simp only [List.all_cons, Bool.and_eq_true] at h ⊢; exact h.2
    have h1 : nameB p = true := by simp only [List.all_cons, Bool.and_eq_true] at h; exact h.1
    have := pieces_join (l := q :: r) (by simp) h2
    rw [show joinV (p :: q :: r) [47] = p ++ 47 :: joinV (q :: r) [47] by simp [joinV], pieces_app (no47 h1), this]
theorem foldS_names : ∀ {l acc : List (List Int)}, l.all nameB = true → foldS l acc = some (acc ++ l)
  | [], acc, _ => by simp [foldS]
  | p :: r, acc, h => by
    simp only [List.all_cons, Bool.and_eq_true] at h
    obtain ⟨h1, h2, h3, h4, _⟩ := nameB_all h.1
    have : stepS acc p = some (acc ++ [p]) := by rw [stepS, if_neg h4, if_neg (fun hh => hh.elim h1 h3), if_pos h.1]
    rw [foldS, this, Option.bind_some, foldS_names h.2, List.append_assoc]
    rfl
theorem split_jn {l : List (List Int)} (h : l.all nameB = true) (ht : tot l ≤ 120) : splitV (jn l) = some l := by
  cases l with
  | nil => rfl
  | cons p r =>
    have e : (jn (p :: r)).length ≤ 120 := by rw [jn_len (by simp)]; exact ht
    unfold splitV
    rw [if_pos ⟨rfl, e⟩, show (jn (p :: r)).tail = joinV (p :: r) [47] from rfl, pieces_join (by simp) h, foldS_names h]
    rfl
theorem okJ_split {s : List Int} {l : List (List Int)} (h : splitV s = some l) : okJ l = true := by
  obtain ⟨k1, k2, k3, _⟩ := split_inv h
  rw [okJ, k1, decide_eq_true (by omega)]; rfl

/-! the same names -/
theorem Same_loop (n : Nat) (a b : List (List Int)) (he : a.length = b.length) (hl : a.length ≤ 1000) : ∀ k i : Nat, i ≤ a.length → a.length - i < k → slices_Equal.l2 n k a b (a.length : Int) (i : Int) = some (decide (a.drop i = b.drop i))
  | 0, i, _, h => by omega
  | k + 1, i, hi, h => by
    rw [slices_Equal.l2]
    by_cases hlt : i < a.length
    · have hlt2 : i < b.length := by omega
      have hd : a.drop i = a[i] :: a.drop (i + 1) := List.drop_eq_getElem_cons hlt
      have hd2 : b.drop i = b[i] :: b.drop (i + 1) := List.drop_eq_getElem_cons hlt2
      have hg : a[i]? = some a[i] := List.getElem?_eq_getElem hlt
      have hg2 : b[i]? = some b[i] := List.getElem?_eq_getElem hlt2
      generalize a[i] = c at hd hg
      generalize b[i] = d at hd2 hg2
      rw [decide_eq_true (show (i : Int) < (a.length : Int) by omega), cond_true, idxK_at (e := c) (by omega) (by simpa using hg), idxK_at (e := d) (by omega) (by simpa using hg2), hd, hd2]
      by_cases hcd : c = d
      · rw [decide_eq_true hcd]
        simp only [Bool.not_true, cond_false]
        unfold slices_Equal.j3
        rw [i64_wrap (by omega) (by omega), show (i : Int) + 1 = ((i + 1 : Nat) : Int) by omega, Same_loop n a b he hl k (i + 1) (by omega) (by omega)]
        simp [hcd]
      · rw [decide_eq_false hcd]
        simp [hcd]
    · rw [decide_eq_false (show ¬ (i : Int) < (a.length : Int) by omega), List.drop_of_length_le (by omega), List.drop_of_length_le (by omega)]
      rfl
theorem Same_run (n : Nat) (hn : 1000 < n) (a b : List (List Int)) (hl : a.length ≤ 1000) : path_Same.f n a b = some (decide (a = b)) := by
  unfold path_Same.f slices_Equal.f
  by_cases h : a.length = b.length
  · rw [decide_eq_true (by omega)]
    simp only [Bool.not_true, cond_false]
    have : slices_Equal.l2 n n a b (a.length : Int) (0 : Int) = some (decide (a = b)) := Same_loop n a b h hl n 0 (by omega) (by omega)
    rw [this]
    rfl
  · rw [decide_eq_false (by omega), decide_eq_false (fun e => h (by rw [e]))]
    rfl
def belowV (s t : List Int) : Bool := match splitV s, splitV t with
  | some a, some b => decide (b.length < a.length) && decide (a.take b.length = b)
  | _, _ => false
theorem split_len {s : List Int} {l : List (List Int)} (h : splitV s = some l) : l.length ≤ 120 := by
  obtain ⟨_, k2, k3, _⟩ := split_inv h
  have := len_le_tot l
  omega
theorem Below_run (n : Nat) (hn : 1000 < n) (s t : List Int) (hs : Byt s) (ht : Byt t) : path_Below.f n s t = some (belowV s t) := by
  unfold path_Below.f belowV
  rw [Split_run n hn s hs, Split_run n hn t ht]
  cases h1 : splitV s with
  | none => rfl
  | some a =>
    cases h2 : splitV t with
    | none => rfl
    | some b =>
      have la := split_len h1
      have lb := split_len h2
      simp only [outS, Option.bind_some, decide_true, Bool.not_true, cond_false]
      by_cases hl : b.length < a.length
      · rw [decide_eq_false (by omega), cond_false, sliceK_in (by omega) (by omega) (by omega)]
        have e : cut a 0 (b.length : Int) = a.take b.length := by unfold cut; simp
        rw [e, Same_run n hn _ _ (by simp; omega), decide_eq_true hl]
        rfl
      · rw [decide_eq_true (by omega), decide_eq_false hl]
        rfl
def outC : Option (List (List Int)) → List Int × Int × Unit
  | some l => (jn l, 0, ())
  | none => ([], 3, ())
theorem Join_ok (n : Nat) (hn : 1000 < n) {l : List (List Int)} (h : okJ l = true) : path_Join.f n l = some (jn l, 0, ()) := by
  have h' := h
  simp only [okJ, Bool.and_eq_true, decide_eq_true_eq] at h'
  have := len_le_tot l
  rw [Join_run n hn l (all_byts h'.1) (by omega), outJ, h]
  rfl
theorem Clean_run (n : Nat) (hn : 1000 < n) (s : List Int) (hs : Byt s) : path_Clean.f n s = some (outC (splitV s)) := by
  unfold path_Clean.f
  rw [Split_run n hn s hs]
  cases h1 : splitV s with
  | none => rfl
  | some l =>
    simp only [outS, Option.bind_some, decide_true, Bool.not_true, cond_false]
    rw [Join_ok n hn (okJ_split h1)]
    rfl
def outL : Option (List (List Int)) → List (List Int) × List Int × Int × Unit
  | some l => if l = [] then ([], [], 3, ()) else (l.dropLast, l.getLastD [], 0, ())
  | none => ([], [], 3, ())
theorem last_run (n : Nat) (hn : 1000 < n) (s : List Int) (hs : Byt s) : path_last.f n s = some (outL (splitV s)) := by
  unfold path_last.f
  rw [Split_run n hn s hs]
  cases h1 : splitV s with
  | none => rfl
  | some l =>
    have la := split_len h1
    simp only [outS, outL, Option.bind_some, decide_true, Bool.not_true, cond_false]
    by_cases h : l = []
    · subst h; rfl
    · have hp := List.length_pos_iff.2 h
      rw [decide_eq_false (by omega), cond_false, if_neg h, i64_wrap (by omega) (by omega), sliceK_in (by omega) (by omega) (by omega)]
      have e : (l.length : Int) - 1 = ((l.length - 1 : Nat) : Int) := by omega
      rw [e, idxK_at (e := l.getLastD []) (by omega) (by
        rw [Int.toNat_natCast, List.getElem?_eq_getElem (by omega)]
        rw [List.getLastD_eq_getLast?, List.getLast?_eq_getElem?, List.getElem?_eq_getElem (by omega)]
        rfl)]
      have e2 : cut l 0 ((l.length - 1 : Nat) : Int) = l.dropLast := by unfold cut; rw [List.dropLast_eq_take]; simp
      rw [e2]
def outD : Option (List (List Int)) → List Int × Int × Unit
  | some l => if l = [] then ([], 3, ()) else (jn l.dropLast, 0, ())
  | none => ([], 3, ())
def outB : Option (List (List Int)) → List Int × Int × Unit
  | some l => if l = [] then ([], 3, ()) else (l.getLastD [], 0, ())
  | none => ([], 3, ())
theorem okJ_dropLast {l : List (List Int)} (h : okJ l = true) : okJ l.dropLast = true := by
  simp only [okJ, Bool.and_eq_true, decide_eq_true_eq] at h ⊢
  refine ⟨List.all_eq_true.2 fun q hq => List.all_eq_true.1 h.1 q (List.dropLast_subset _ hq), ?_⟩
  rw [List.dropLast_eq_take]
  have := tot_take_le l (l.length - 1)
  omega
theorem Dir_run (n : Nat) (hn : 1000 < n) (s : List Int) (hs : Byt s) : path_Dir.f n s = some (outD (splitV s)) := by
  unfold path_Dir.f
  rw [last_run n hn s hs]
  cases h1 : splitV s with
  | none => rfl
  | some l =>
    simp only [outL, outD]
    by_cases h : l = []
    · subst h; rfl
    · rw [if_neg h, if_neg h]
      simp only [Option.bind_some, decide_true, Bool.not_true, cond_false]
      rw [Join_ok n hn (okJ_dropLast (okJ_split h1))]
      rfl
theorem Base_run (n : Nat) (hn : 1000 < n) (s : List Int) (hs : Byt s) : path_Base.f n s = some (outB (splitV s)) := by
  unfold path_Base.f
  rw [last_run n hn s hs]
  cases h1 : splitV s with
  | none => rfl
  | some l =>
    simp only [outL, outB]
    by_cases h : l = []
    · subst h; rfl
    · rw [if_neg h, if_neg h]
      rfl
theorem byt_lit {s : List Int} (h : s.all (fun b => decide (0 ≤ b ∧ b ≤ 255)) = true) : Byt s := fun b hb => of_decide_eq_true (List.all_eq_true.1 h b hb)
theorem live_run (n : Nat) (hn : 1000 < n) : law02_live.f n = some true := by
  unfold law02_live.f
  rw [Clean_run n hn _ (byt_lit (by decide)), Dir_run n hn _ (byt_lit (by decide)), Name_run n (by omega) _ (byt_lit (by decide)), Below_run n hn _ _ (byt_lit (by decide)) (byt_lit (by decide))]
  decide +kernel
end Go.Proofs.YtfpmemeahnbmfaaDoor.S
