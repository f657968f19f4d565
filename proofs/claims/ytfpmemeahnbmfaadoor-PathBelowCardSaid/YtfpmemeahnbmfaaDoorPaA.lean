/- Paths: what the functions of the layer answer, in plain words. -/
import Derived.Test.YtfpmemeahnbmfaaDoorSFn
import Derived.Test.YtfpmemeahnbmfaaDoorBw4
import Derived.Laws.RangeString
set_option linter.unusedVariables false
set_option linter.unusedSimpArgs false
namespace Go.Proofs.YtfpmemeahnbmfaaDoor.S
open Go Go.Proofs Go.Proofs.Bw

def Byt (s : List Int) : Prop := ∀ b ∈ s, 0 ≤ b ∧ b ≤ 255
theorem byt_wf {s : List Int} (h : Ty.wf .str s) : Byt s ∧ s.length ≤ maxLen := ⟨fun b hb => h.2 b hb, h.1⟩
theorem Byt.cons {b : Int} {s : List Int} (h : Byt (b :: s)) : Byt s := fun x hx => h x (List.mem_cons_of_mem _ hx)

/-! letters and names -/
def chB (c : Int) : Bool := (decide ((97 : Int) ≤ c) && decide (c ≤ (122 : Int))) || (!decide (c < (48 : Int)) && !decide ((57 : Int) < c)) || decide (c = (46 : Int)) || decide (c = (45 : Int)) || decide (c = (95 : Int))
theorem low_letter {c : Int} (h1 : 97 ≤ c) (h2 : c ≤ 122) : ior IntKind.i32 c 32 = c := by
  obtain ⟨m, rfl⟩ : ∃ m : Fin 26, c = 97 + (m.val : Int) := ⟨⟨(c - 97).toNat, by omega⟩, by simp only []; omega⟩
  revert m
  decide +kernel
theorem name_chk (c : Int) (K : Option Bool) :
    ((bif (decide (c = (ior IntKind.i32 c (32 : Int)))) then (some (decide ((97 : Int) ≤ c))) else some false).bind fun g1 =>
    (bif g1 then (some (decide (c ≤ (122 : Int)))) else some false).bind fun g2 =>
    (bif (!g2) then ((bif (decide (c < (48 : Int))) then some true else (some (decide ((57 : Int) < c)))).bind fun g4 => some g4) else some false).bind fun g3 =>
    (bif g3 then (some (!decide (c = (46 : Int)))) else some false).bind fun g5 =>
    (bif g5 then (some (!decide (c = (45 : Int)))) else some false).bind fun g6 =>
    (bif g6 then (some (!decide (c = (95 : Int)))) else some false).bind fun g7 =>
    bif g7 then (some false) else K) = bif chB c then K else some false := by
  have h0 : decide ((97 : Int) ≤ c) = true → decide (c ≤ (122 : Int)) = true → decide (c = (ior IntKind.i32 c (32 : Int))) = true := fun h1 h2 =>
    decide_eq_true (low_letter (of_decide_eq_true h1) (of_decide_eq_true h2)).symm
  unfold chB
  generalize decide (c = (ior IntKind.i32 c (32 : Int))) = b0 at *
  generalize decide ((97 : Int) ≤ c) = b1 at *
  generalize decide (c ≤ (122 : Int)) = b2 at *
  generalize decide (c < (48 : Int)) = b3 at *
  generalize decide ((57 : Int) < c) = b4 at *
  generalize decide (c = (46 : Int)) = b5 at *
  generalize decide (c = (45 : Int)) = b6 at *
  generalize decide (c = (95 : Int)) = b7 at *
  cases b1 <;> cases b2 <;> cases b0 <;> first | (exact absurd (h0 rfl rfl) (by decide)) | (clear h0; cases b3 <;> cases b4 <;> cases b5 <;> cases b6 <;> cases b7 <;> rfl)
theorem bytesOf_size (s : List Int) : (bytesOf s).size = s.length := by simp [bytesOf, ByteArray.size]
theorem bytesOf_at {s : List Int} (hb : Byt s) {i : Nat} {c : Int} (h : s[i]? = some c) : ((bytesOf s).get! i).toNat = c.toNat := by
  obtain ⟨hi, hc⟩ := List.getElem?_eq_some_iff.1 h
  have := hb c (by rw [← hc]; exact List.getElem_mem hi)
  have e : (bytesOf s).get! i = UInt8.ofNat c.toNat := by
    simp [bytesOf, ByteArray.get!, hi, hc]
  rw [e]
  simp
  omega
theorem decL_lo {s : List Int} (hb : Byt s) {i : Nat} {c : Int} (h : s[i]? = some c) (hc : c < 128) : decL s i = (c, 1) := by
  have h1 := bytesOf_at hb h
  obtain ⟨hi, hc'⟩ := List.getElem?_eq_some_iff.1 h
  have := hb c (by rw [← hc']; exact List.getElem_mem hi)
  unfold decL Utf8.decode
  simp only [Int.toNat_natCast, Nat.add_zero, h1]
  rw [if_pos (by omega)]
  simp only [Int.toNat_of_nonneg this.1]
  rfl
theorem decL_hi {s : List Int} (hb : Byt s) {i : Nat} {c : Int} (h : s[i]? = some c) (hc : 128 ≤ c) : 128 ≤ (decL s i).1 := by
  have h1 := bytesOf_at hb h
  unfold decL Utf8.decode
  simp only [Int.toNat_natCast, Nat.add_zero, h1]
  rw [if_neg (by omega)]
  repeat' split
  all_goals first | (simp only [Utf8.runeError]; omega) | (rename_i hh; simp only [ge_iff_le, Bool.and_eq_true, decide_eq_true_eq] at hh; simp only []; omega)
theorem chB_hi {c : Int} (h : 128 ≤ c) : chB c = false := by
  unfold chB
  simp only [decide_eq_true (show (97 : Int) ≤ c by omega), decide_eq_false (show ¬ c ≤ 122 by omega), decide_eq_false (show ¬ c < 48 by omega), decide_eq_true (show 57 < c by omega), decide_eq_false (show ¬ c = 46 by omega), decide_eq_false (show ¬ c = 45 by omega), decide_eq_false (show ¬ c = 95 by omega)]
  rfl
theorem Name_loop (n : Nat) (s : List Int) (hb : Byt s) : ∀ k i : Nat, i ≤ s.length → s.length - i < k → path_Name.l2 n k (s, (i : Int)) = some ((s.drop i).all chB)
  | 0, i, _, h => by omega
  | k + 1, i, hi, h => by
    rw [path_Name.l2]
    by_cases hlt : i < s.length
    · have hd : s.drop i = s[i] :: s.drop (i + 1) := List.drop_eq_getElem_cons hlt
      have hg : s[i]? = some s[i] := List.getElem?_eq_getElem hlt
      generalize s[i] = c at hd hg
      simp only [name_chk]
      rw [decide_eq_true (show (i : Int) < (s.length : Int) by omega), cond_true, hd, List.all_cons]
      by_cases hc : c < 128
      · rw [decL_lo hb hg hc]
        simp only []
        rw [show (i : Int) + 1 = ((i + 1 : Nat) : Int) by omega, Name_loop n s hb k (i + 1) (by omega) (by omega)]
        cases chB c <;> rfl
      · have h1 := decL_hi hb hg (by omega)
        rw [chB_hi h1, chB_hi (c := c) (by omega)]
        rfl
    · rw [decide_eq_false (show ¬ (i : Int) < (s.length : Int) by omega), List.drop_of_length_le (by omega)]
      rfl
def nameB (s : List Int) : Bool := !(decide (s = []) || decide ((12 : Int) < (s.length : Int)) || decide (s = [46]) || decide (s = [46, 46])) && s.all chB
theorem Name_run (n : Nat) (hn : 12 < n) (s : List Int) (hb : Byt s) : path_Name.f n s = some (nameB s) := by
  unfold path_Name.f nameB
  cases h1 : decide (s = []) with
  | true => simp [h1]
  | false =>
    cases h2 : decide ((12 : Int) < (s.length : Int)) with
    | true => simp [h1, h2]
    | false =>
      have hl : ¬ (12 : Int) < (s.length : Int) := of_decide_eq_false h2
      have : path_Name.l2 n n (s, (0 : Int)) = some (s.all chB) := Name_loop n s hb n 0 (by omega) (by omega)
      cases h3 : decide (s = [46]) with
      | true => simp [h1, h2, h3]
      | false =>
        cases h4 : decide (s = [46, 46]) with
        | true => simp [h1, h2, h3, h4]
        | false =>
          simp only [h1, h2, h3, h4, cond_false, Option.bind_some, Bool.or_self, Bool.not_false, Bool.true_and]
          exact this
theorem rchk (c : Int) (K : Option Bool) :
    ((bif (decide ((97 : Int) ≤ c)) then (some (decide (c ≤ (122 : Int)))) else some false).bind fun g2 =>
  (bif g2 then some true else ((bif (decide ((48 : Int) ≤ c)) then (some (decide (c ≤ (57 : Int)))) else some false).bind fun g4 =>
  some g4)).bind fun g3 =>
  (bif g3 then some true else (some (decide (c = (46 : Int))))).bind fun g5 =>
  (bif g5 then some true else (some (decide (c = (45 : Int))))).bind fun g6 =>
  (bif g6 then some true else (some (decide (c = (95 : Int))))).bind fun g7 =>
  bif (!g7) then (some false) else K) = bif chB c then K else some false := by
  have e1 : decide ((48 : Int) ≤ c) = !decide (c < 48) := by by_cases h : c < 48 <;> simp [h] <;> omega
  have e2 : decide (c ≤ (57 : Int)) = !decide (57 < c) := by by_cases h : 57 < c <;> simp [h] <;> omega
  rw [e1, e2]
  unfold chB
  generalize decide ((97 : Int) ≤ c) = b1 at *
  generalize decide (c ≤ (122 : Int)) = b2 at *
  generalize decide (c < (48 : Int)) = b3 at *
  generalize decide ((57 : Int) < c) = b4 at *
  generalize decide (c = (46 : Int)) = b5 at *
  generalize decide (c = (45 : Int)) = b6 at *
  generalize decide (c = (95 : Int)) = b7 at *
  clear e1 e2
  cases b1 <;> cases b2 <;> cases b3 <;> cases b4 <;> cases b5 <;> cases b6 <;> cases b7 <;> rfl
theorem rName_loop (n : Nat) (s : List Int) (hl : s.length ≤ maxLen) : ∀ k i : Nat, i ≤ s.length → s.length - i < k → r02_Name.l2 n k s (i : Int) = bif (s.drop i).all chB then r02_Name.j1 n s else some false
  | 0, i, _, h => by omega
  | k + 1, i, hi, h => by
    rw [r02_Name.l2]
    have hm : maxLen = 9223372036854775807 := rfl
    by_cases hlt : i < s.length
    · have hd : s.drop i = s[i] :: s.drop (i + 1) := List.drop_eq_getElem_cons hlt
      have hg : s[i]? = some s[i] := List.getElem?_eq_getElem hlt
      generalize s[i] = c at hd hg
      rw [decide_eq_true (show (i : Int) < (s.length : Int) by omega), cond_true, hd, List.all_cons, idxK_at (e := c) (by omega) (by simpa using hg), rchk]
      unfold r02_Name.j3
      rw [i64_wrap (by omega) (by omega), show (i : Int) + 1 = ((i + 1 : Nat) : Int) by omega, rName_loop n s hl k (i + 1) (by omega) (by omega)]
      cases chB c <;> rfl
    · rw [decide_eq_false (show ¬ (i : Int) < (s.length : Int) by omega), List.drop_of_length_le (by omega)]
      rfl
theorem rName_run (n : Nat) (s : List Int) (hn : s.length < n) (hl : s.length ≤ maxLen) : r02_Name.f n s = some (nameB s) := by
  unfold r02_Name.f
  have : r02_Name.l2 n n s (0 : Int) = bif s.all chB then r02_Name.j1 n s else some false := rName_loop n s hl n 0 (by omega) (by omega)
  rw [this]
  unfold nameB r02_Name.j1
  have e1 : decide ((1 : Int) ≤ (s.length : Int)) = !decide (s = []) := by cases s <;> simp; omega
  have e2 : decide ((s.length : Int) ≤ 12) = !decide ((12 : Int) < s.length) := by by_cases h : (12 : Int) < s.length <;> simp [h] <;> omega
  rw [e1, e2]
  generalize decide (s = []) = b1
  generalize decide ((12 : Int) < s.length) = b2
  generalize decide (s = [46]) = b3
  generalize decide (s = [46, 46]) = b4
  generalize s.all chB = b5
  cases b1 <;> cases b2 <;> cases b3 <;> cases b4 <;> cases b5 <;> rfl
end Go.Proofs.YtfpmemeahnbmfaaDoor.S
