/- Paths: joining and cutting, in plain words. -/
import Derived.Test.YtfpmemeahnbmfaaDoorPaA
set_option linter.unusedVariables false
set_option linter.unusedSimpArgs false
namespace Go.Proofs.YtfpmemeahnbmfaaDoor.S
open Go Go.Proofs Go.Proofs.Bw

/-! joining -/
def tot : List (List Int) → Nat
  | [] => 0
  | p :: r => 1 + p.length + tot r
def jn (l : List (List Int)) : List Int := 47 :: joinV l [47]
def jt : List (List Int) → List Int
  | [] => []
  | p :: r => 47 :: p ++ jt r
theorem jn_cons (p : List Int) (r : List (List Int)) : jn (p :: r) = jt (p :: r) := by
  induction r generalizing p with
  | nil => simp [jn, joinV, jt]
  | cons q r ih =>
    have := ih q
    simp only [jn, joinV, jt] at this ⊢
    rw [← this]
    simp
theorem jt_len (l : List (List Int)) : (jt l).length = tot l := by
  induction l with
  | nil => rfl
  | cons p r ih => simp only [jt, tot, List.length_append, List.length_cons, ih]; omega
theorem jn_len {l : List (List Int)} (h : l ≠ []) : (jn l).length = tot l := by
  cases l with
  | nil => exact (h rfl).elim
  | cons p r => rw [jn_cons, jt_len]
theorem jn_len_le (l : List (List Int)) : (jn l).length ≤ tot l + 1 := by
  cases l with
  | nil => simp [jn, joinV, tot]
  | cons p r => rw [jn_cons, jt_len]; omega
theorem tot_append (a b : List (List Int)) : tot (a ++ b) = tot a + tot b := by
  induction a with
  | nil => simp [tot]
  | cons p r ih => simp only [List.cons_append, tot, ih]; omega
theorem len_le_tot (l : List (List Int)) : l.length ≤ tot l := by
  induction l with
  | nil => simp
  | cons p r ih => simp only [List.length_cons, tot]; omega
theorem jt_append (a b : List (List Int)) : jt (a ++ b) = jt a ++ jt b := by
  induction a with
  | nil => rfl
  | cons p r ih => simp only [List.cons_append, jt, ih, List.append_assoc]
theorem tot_take_le (l : List (List Int)) (i : Nat) : tot (l.take i) ≤ tot l := by
  have := tot_append (l.take i) (l.drop i)
  rw [List.take_append_drop] at this
  omega
def okJ (l : List (List Int)) : Bool := l.all nameB && decide (tot l ≤ 120)
def outJ (l : List (List Int)) : List Int × Int × Unit := bif okJ l then (jn l, 0, ()) else ([], 3, ())
def Byts (l : List (List Int)) : Prop := ∀ p ∈ l, Byt p
theorem take_succ_at {α : Type} {l : List α} {i : Nat} {c : α} (h : l[i]? = some c) : l.take (i + 1) = l.take i ++ [c] := by
  rw [List.take_add_one, h]; rfl
theorem Join_last (n : Nat) {l : List (List Int)} (ht : tot l ≤ 120) : path_Join.j1 n l = some (jn l, 0, ()) := by
  have h1 := len_le_tot l
  have h2 := jn_len_le l
  unfold jn at h2
  rw [List.length_cons] at h2
  have hm : maxLen = 9223372036854775807 := rfl
  unfold path_Join.j1 strings_Join.f joinK
  rw [if_pos ⟨by omega, by omega⟩]
  simp only [Option.bind_some]
  rw [leK_in (by simp only [List.length_cons, List.length_nil]; omega)]
  rfl
theorem Join_loop (n : Nat) (hn : 12 < n) (l : List (List Int)) (hb : Byts l) (hl : l.length ≤ 1000) : ∀ k i : Nat, i ≤ l.length → l.length - i < k → (l.take i).all nameB = true → tot (l.take i) ≤ 120 →
    path_Join.l2 n k l (tot (l.take i) : Int) l (l.length : Int) (i : Int) = some (outJ l)
  | 0, i, _, h, _, _ => by omega
  | k + 1, i, hi, h, ha, ht => by
    rw [path_Join.l2]
    by_cases hlt : i < l.length
    · have hd : l.drop i = l[i] :: l.drop (i + 1) := List.drop_eq_getElem_cons hlt
      have hg : l[i]? = some l[i] := List.getElem?_eq_getElem hlt
      have hm : l[i] ∈ l := List.getElem_mem hlt
      generalize l[i] = c at hd hg hm
      have hsp : l = l.take i ++ (c :: l.drop (i + 1)) := by rw [← hd, List.take_append_drop]
      rw [decide_eq_true (show (i : Int) < (l.length : Int) by omega), cond_true, idxK_at (e := c) (by omega) (by simpa using hg), Name_run n hn c (hb c hm)]
      simp only [Option.bind_some]
      cases hc : nameB c with
      | false =>
        have : okJ l = false := by rw [okJ, hsp]; simp [hc]
        simp only [Bool.not_false, cond_true, outJ, this, cond_false]
      | true =>
        have hcl : c.length ≤ 12 := by
          unfold nameB at hc
          by_cases h12 : (12 : Int) < (c.length : Int)
          · simp [h12] at hc
          · omega
        have e1 : IntKind.i64.wrap ((tot (l.take i) : Int) + IntKind.i64.wrap ((1 : Int) + (c.length : Int))) = (tot (l.take (i + 1)) : Int) := by
          rw [i64_wrap (x := 1 + (c.length : Int)) (by omega) (by omega), i64_wrap (by omega) (by omega), take_succ_at hg, tot_append]
          simp only [tot]; omega
        simp only [Bool.not_true, cond_false, e1]
        by_cases h120 : (120 : Int) < (tot (l.take (i + 1)) : Int)
        · have : okJ l = false := by
            have := tot_take_le l (i + 1)
            rw [okJ, decide_eq_false (by omega), Bool.and_false]
          rw [decide_eq_true h120]
          simp only [cond_true, outJ, this, cond_false]
        · rw [decide_eq_false h120]
          simp only [cond_false]
          unfold path_Join.j3
          rw [i64_wrap (by omega) (by omega), show (i : Int) + 1 = ((i + 1 : Nat) : Int) by omega]
          exact Join_loop n hn l hb hl k (i + 1) (by omega) (by omega) (by rw [take_succ_at hg]; simp [List.all_append, ha, hc]) (by omega)
    · have e : l.take i = l := List.take_of_length_le (by omega)
      rw [e] at ha ht
      rw [decide_eq_false (show ¬ (i : Int) < (l.length : Int) by omega), cond_false, Join_last n ht]
      rw [outJ, okJ, ha, decide_eq_true ht]
      rfl
theorem Join_run (n : Nat) (hn : 1000 < n) (l : List (List Int)) (hb : Byts l) (hl : l.length ≤ 1000) : path_Join.f n l = some (outJ l) := by
  unfold path_Join.f
  exact Join_loop n (by omega) l hb hl n 0 (by omega) (by omega) rfl (by simp [tot])

def rj (l : List (List Int)) (i : Nat) : List Int := if i = 0 then [47] else jt (l.take i)
theorem rj_end (l : List (List Int)) : rj l l.length = jn l := by
  cases l with
  | nil => rfl
  | cons p r => rw [jn_cons, rj, if_neg (by simp), List.take_length]
theorem rJoin_loop (n : Nat) (l : List (List Int)) (hb : ∀ p ∈ l, p.length < n ∧ p.length ≤ maxLen) (hl : l.length ≤ 1000) : ∀ k i : Nat, i ≤ l.length → l.length - i < k → (l.take i).all nameB = true → tot (l.take i) ≤ 120 →
    r02_Join.l2 n k l (rj l i) (i : Int) = some (outJ l)
  | 0, i, _, h, _, _ => by omega
  | k + 1, i, hi, h, ha, ht => by
    rw [r02_Join.l2]
    by_cases hlt : i < l.length
    · have hd : l.drop i = l[i] :: l.drop (i + 1) := List.drop_eq_getElem_cons hlt
      have hg : l[i]? = some l[i] := List.getElem?_eq_getElem hlt
      have hm : l[i] ∈ l := List.getElem_mem hlt
      generalize l[i] = c at hd hg hm
      have hsp : l = l.take i ++ (c :: l.drop (i + 1)) := by rw [← hd, List.take_append_drop]
      rw [decide_eq_true (show (i : Int) < (l.length : Int) by omega), cond_true, idxK_at (e := c) (by omega) (by simpa using hg), rName_run n c (hb c hm).1 (hb c hm).2]
      simp only [Option.bind_some]
      cases hc : nameB c with
      | false =>
        have : okJ l = false := by rw [okJ, hsp]; simp [hc]
        simp only [Bool.not_false, cond_true, outJ, this, cond_false]
      | true =>
        have hcl : c.length ≤ 12 := by
          unfold nameB at hc
          by_cases h12 : (12 : Int) < (c.length : Int)
          · simp [h12] at hc
          · omega
        have hml : maxLen = 9223372036854775807 := rfl
        have htt : tot (l.take (i + 1)) = tot (l.take i) + (1 + c.length) := by rw [take_succ_at hg, tot_append]; simp only [tot]; omega
        have step : ∀ x4 : List Int, x4 ++ c = rj l (i + 1) → r02_Join.j4 n (r02_Join.l2 n k) l x4 (i : Int) = some (outJ l) := fun x4 hx => by
          have hxl : (rj l (i + 1)).length = tot (l.take (i + 1)) := by rw [rj, if_neg (by omega), jt_len]
          have hxl2 : x4.length + c.length = tot (l.take (i + 1)) := by rw [← hxl, ← hx, List.length_append]
          unfold r02_Join.j4
          rw [idxK_at (e := c) (by omega) (by simpa using hg), leK_in (by omega), hx, hxl]
          by_cases h120 : (120 : Int) < (tot (l.take (i + 1)) : Int)
          · have : okJ l = false := by
              have := tot_take_le l (i + 1)
              rw [okJ, decide_eq_false (by omega), Bool.and_false]
            rw [decide_eq_true h120]
            simp only [cond_true, outJ, this, cond_false]
          · rw [decide_eq_false h120]
            simp only [cond_false]
            unfold r02_Join.j3
            rw [i64_wrap (by omega) (by omega), show (i : Int) + 1 = ((i + 1 : Nat) : Int) by omega]
            exact rJoin_loop n l hb hl k (i + 1) (by omega) (by omega) (by rw [take_succ_at hg]; simp [List.all_append, ha, hc]) (by omega)
        simp only [Bool.not_true, cond_false]
        by_cases h0 : i = 0
        · subst h0
          rw [decide_eq_false (by omega), cond_false]
          exact step _ (by rw [rj, rj, if_pos rfl, if_neg (by omega), take_succ_at hg]; simp [jt])
        · rw [decide_eq_true (by omega), cond_true]
          have hrl : (rj l i).length = tot (l.take i) := by rw [rj, if_neg h0, jt_len]
          rw [leK_in (by rw [hrl]; simp only [List.length_cons, List.length_nil]; omega)]
          exact step _ (by rw [rj, rj, if_neg h0, if_neg (by omega), take_succ_at hg, jt_append]; simp [jt])
    · have e : l.take i = l := List.take_of_length_le (by omega)
      rw [e] at ha ht
      rw [decide_eq_false (show ¬ (i : Int) < (l.length : Int) by omega), cond_false]
      have hil : i = l.length := by omega
      unfold r02_Join.j1
      rw [hil, rj_end, outJ, okJ, ha, decide_eq_true ht]
      rfl
theorem rJoin_run (n : Nat) (l : List (List Int)) (hn : 1000 < n) (hb : ∀ p ∈ l, p.length < n ∧ p.length ≤ maxLen) (hl : l.length ≤ 1000) : r02_Join.f n l = some (outJ l) := by
  unfold r02_Join.f
  exact rJoin_loop n l hb hl n 0 (by omega) (by omega) rfl (by simp [tot])

/-! cutting -/
def brk : List Int → List Int × Option (List Int)
  | [] => ([], none)
  | b :: l => if b = 47 then ([], some l) else (b :: (brk l).1, (brk l).2)
theorem brk_spec (x : List Int) : match brk x with
    | (p, none) => p = x ∧ ibsV x 47 = -1
    | (p, some r) => x = p ++ 47 :: r ∧ ibsV x 47 = p.length := by
  induction x with
  | nil => simp [brk, ibsV]
  | cons b l ih =>
    by_cases h : b = 47
    · simp [brk, ibsV, h]
    · simp only [brk, h, if_false, ibsV]
      revert ih
      rcases brk l with ⟨p, _ | r⟩
      · rintro ⟨rfl, h2⟩; simp [h2]
      · rintro ⟨rfl, h2⟩
        simp only [h2]
        have : ¬ ((p.length : Int) = -1) := by omega
        simp [this]
theorem Index_run (n : Nat) (x : List Int) : internal_stringslite_Index.f n x [47] = some (if x = [47] then 0 else ibsV x 47) := by
  unfold internal_stringslite_Index.f internal_stringslite_IndexByte.f internal_bytealg_IndexByteString.f
  by_cases h : x = [47]
  · subst h; rfl
  · have : decide (([47] : List Int) = x) = false := decide_eq_false (fun e => h e.symm)
    simp only [List.length_cons, List.length_nil, this, if_neg h]
    rfl
theorem Cut_run (n : Nat) (x : List Int) (hx : x.length ≤ 1000) : strings_Cut.f n x [47] = some (match brk x with | (p, none) => (p, [], false, ()) | (p, some r) => (p, r, true, ())) := by
  unfold strings_Cut.f internal_stringslite_Cut.f
  rw [Index_run]
  have hb := brk_spec x
  have hidx : (if x = [47] then 0 else ibsV x 47) = ibsV x 47 := by
    split
    · rename_i e; subst e; rfl
    · rfl
  rw [hidx]
  revert hb
  rcases brk x with ⟨p, _ | r⟩
  · rintro ⟨rfl, h2⟩
    simp only [Option.bind_some, h2]
    rfl
  · rintro ⟨rfl, h2⟩
    simp only [List.length_append, List.length_cons] at hx
    simp only [Option.bind_some, h2, List.length_cons, List.length_nil]
    rw [decide_eq_true (by omega), cond_true, i64_wrap (by omega) (by omega), sliceK_in (by omega) (by omega) (by simp; omega), sliceK_in (by omega) (by simp; omega) (by omega)]
    simp only [Option.bind_some]
    have e1 : cut (p ++ 47 :: r) 0 (p.length : Int) = p := by unfold cut; simp
    have e2 : cut (p ++ 47 :: r) ((p.length : Int) + ((0 + 1 : Nat) : Int)) ((p ++ 47 :: r).length : Int) = r := by
      unfold cut
      rw [show ((p.length : Int) + ((0 + 1 : Nat) : Int)).toNat = p.length + 1 by omega, Int.toNat_natCast, List.take_of_length_le (Nat.le_refl _), List.drop_append]
      simp
    rw [e1, e2]
end Go.Proofs.YtfpmemeahnbmfaaDoor.S
