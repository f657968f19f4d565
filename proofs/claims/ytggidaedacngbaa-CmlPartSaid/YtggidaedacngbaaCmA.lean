/- Logs: their pieces, in plain words. -/
import Derived.Test.YtggidaedacngbaaSFn
set_option linter.unusedVariables false
set_option linter.unusedSimpArgs false
namespace Go.Proofs.Ytggidaedacngbaa.S
open Go Go.Proofs Go.Proofs.Bw

theorem live_ok (m : Nat) : law08_live.f (m + 60) = some true := by kernel_rfl
noncomputable instance decRecord : DecidableEq DRecord := fun a b => Classical.propDecidable _
noncomputable instance decOp : DecidableEq DOp := fun a b => Classical.propDecidable _
theorem eqR (a b : DRecord) : ((eqI a.1.1 b.1.1 && (eqI a.1.2.1 b.1.2.1 && (eqI a.1.2.2.1 b.1.2.2.1 && (eqS a.1.2.2.2.1 b.1.2.2.2.1 && (eqI a.1.2.2.2.2.1 b.1.2.2.2.2.1 && (eqS a.1.2.2.2.2.2.1 b.1.2.2.2.2.2.1 && (eqI a.1.2.2.2.2.2.2.1 b.1.2.2.2.2.2.2.1 && (eqS a.1.2.2.2.2.2.2.2.1 b.1.2.2.2.2.2.2.2.1 && true)))))))) && (eqI a.2.1 b.2.1 && true)) = decide (a = b) := by
  obtain ⟨⟨k, f, at_, nm, to, nm2, md, dt, u⟩, s, v⟩ := a
  obtain ⟨⟨k', f', at', nm', to', nm2', md', dt', u'⟩, s', v'⟩ := b
  rw [Bool.eq_iff_iff]
  simp only [eqI, eqS, Bool.and_eq_true, decide_eq_true_eq, Bool.and_true, Prod.mk.injEq, and_true]
theorem few_run (n : Nat) (l : List DRecord) : law08_few.f n l = some (l.take 40) := by
  unfold law08_few.f
  by_cases h : (40 : Int) < (l.length : Int)
  · rw [decide_eq_true h, cond_true, sliceK_in (by omega) (by omega) (by omega)]
    unfold cut; simp
  · rw [decide_eq_false h, cond_false, List.take_of_length_le (by omega)]
theorem Clone_run (n : Nat) (l : List DRecord) (h : l.length ≤ 1000) : slices_Clone.f n l = some l := by
  unfold slices_Clone.f
  rw [appK_in (by simp; omega)]
  cases l with
  | nil => simp [both]
  | cons a l => simp
def clampN (m : Int) (k : Nat) : Nat := min (max m 0).toNat k
theorem clamp_eq (m : Int) (k : Nat) : imin (imax m (0 : Int)) (k : Int) = (clampN m k : Int) := by
  unfold imin imax clampN
  split <;> split <;> omega
theorem Cut_run (n : Nat) (l : List DRecord) (h : l.length ≤ 1000) (m : Int) : cml_Cut.f n l m = some (l.take (clampN m l.length)) := by
  unfold cml_Cut.f
  have hc : clampN m l.length ≤ l.length := by unfold clampN; omega
  rw [clamp_eq, sliceK_in (by omega) (by omega) (by omega)]
  have e : cut l 0 (clampN m l.length : Int) = l.take (clampN m l.length) := by unfold cut; simp
  rw [e, Clone_run _ _ (by simp; omega)]
  rfl
theorem Drop_run (n : Nat) (l : List DRecord) (h : l.length ≤ 1000) (m : Int) : cml_Drop.f n l m = some (l.drop (clampN m l.length)) := by
  unfold cml_Drop.f
  have hc : clampN m l.length ≤ l.length := by unfold clampN; omega
  rw [clamp_eq, sliceK_in (by omega) (by omega) (by omega)]
  have e : cut l (clampN m l.length : Int) (l.length : Int) = l.drop (clampN m l.length) := by unfold cut; simp
  rw [e, Clone_run _ _ (by simp; omega)]
  rfl
theorem Same_loop (n : Nat) (a b : List DRecord) (he : a.length = b.length) (hl : a.length ≤ 1000) : ∀ k i : Nat, i ≤ a.length → a.length - i < k → slices_Equal.l2 n k a b (a.length : Int) (i : Int) = some (decide (a.drop i = b.drop i))
  | 0, i, _, h => by omega
  | k + 1, i, hi, h => by
    rw [slices_Equal.l2]
    by_cases hlt : i < a.length
    · have hlt2 : i < b.length := by omega
      have hd : a.drop i = a[i] :: a.drop (i + 1) := List.drop_eq_getElem_cons hlt
      have hd2 : b.drop i = b[i] :: b.drop (i + 1) := List.drop_eq_getElem_cons hlt2
      have hg : a[i]? = some a[i] := List.getElem?_eq_getElem hlt
      have hg2 : b[i]? = some b[i] := List.getElem?_eq_getElem hlt2
      generalize a[i] = c at hd hg
      generalize b[i] = d at hd2 hg2
      rw [decide_eq_true (show (i : Int) < (a.length : Int) by omega), cond_true, idxK_at (e := c) (by omega) (by simpa using hg), idxK_at (e := d) (by omega) (by simpa using hg2), hd, hd2, eqR]
      by_cases hcd : c = d
      · rw [decide_eq_true hcd]
        simp only [Bool.not_true, cond_false]
        unfold slices_Equal.j3
        rw [i64_wrap (by omega) (by omega), show (i : Int) + 1 = ((i + 1 : Nat) : Int) by omega, Same_loop n a b he hl k (i + 1) (by omega) (by omega)]
        simp [hcd]
      · rw [decide_eq_false hcd]
        simp [hcd]
    · rw [decide_eq_false (show ¬ (i : Int) < (a.length : Int) by omega), List.drop_of_length_le (by omega), List.drop_of_length_le (by omega)]
      rfl
theorem Same_run (n : Nat) (hn : 1000 < n) (a b : List DRecord) (hl : a.length ≤ 1000) : cml_Same.f n a b = some (decide (a = b)) := by
  unfold cml_Same.f slices_Equal.f
  by_cases h : a.length = b.length
  · rw [decide_eq_true (by omega)]
    simp only [Bool.not_true, cond_false]
    have : slices_Equal.l2 n n a b (a.length : Int) (0 : Int) = some (decide (a = b)) := Same_loop n a b h hl n 0 (by omega) (by omega)
    rw [this]
    rfl
  · rw [decide_eq_false (by omega), decide_eq_false (fun e => h (by rw [e]))]
    rfl
/-! CmlChunks -/
theorem chunk_loop (m : Nat) (hm : 1000 ≤ m) (l : List DRecord) (hl : l.length ≤ 40) (c : Nat) (hc : 1 ≤ c) : ∀ (k i : Nat) (rest sent : List DRecord), sent ++ rest = l → rest.length + i ≤ 40 → rest.length < k →
    law08_CmlChunks.l2 (m + 60) k l (c : Int) rest sent (i : Int) = some true
  | 0, _, rest, _, _, _, h => by omega
  | k + 1, i, rest, sent, hs, hr, hk => by
    have hll : sent.length + rest.length ≤ 40 := by rw [← List.length_append, hs]; exact hl
    rw [law08_CmlChunks.l2, decide_eq_true (by omega), cond_true]
    simp only [Option.bind_some]
    by_cases h0 : 0 < rest.length
    · rw [decide_eq_true (by omega), cond_true, Cut_run _ _ (by omega)]
      have hcl : clampN (c : Int) rest.length = min c rest.length := by unfold clampN; omega
      have hlen : (rest.take (min c rest.length)).length = min c rest.length := by simp
      rw [hcl]
      simp only [Option.bind_some, hlen]
      rw [decide_eq_false (by omega), decide_eq_false (by omega)]
      simp only [cond_false, Option.bind_some]
      rw [appK_in (by omega), Drop_run _ _ (by omega)]
      have hc2 : clampN ((min c rest.length : Nat) : Int) rest.length = min c rest.length := by unfold clampN; omega
      rw [hc2]
      simp only [Option.bind_some, law08_CmlChunks.j3]
      rw [i64_wrap (by omega) (by omega), show (i : Int) + 1 = ((i + 1 : Nat) : Int) by omega]
      refine chunk_loop m hm l hl c hc k (i + 1) _ _ ?_ ?_ ?_
      · rw [List.append_assoc, List.take_append_drop, hs]
      · rw [List.length_drop]; omega
      · rw [List.length_drop]; omega
    · have hr0 : rest = [] := List.length_eq_zero_iff.1 (by omega)
      subst hr0
      rw [List.append_nil] at hs
      subst hs
      rw [decide_eq_false (by simp), cond_false, law08_CmlChunks.j1, live_ok, Same_run _ (by omega) _ _ (by omega)]
      simp
theorem CmlChunks_pure (l : List DRecord) (n : Int) (h0 : Ty.wf (.slB .U false TRecord) l) (h1 : Ty.wf (.int .u8) n) : law08_CmlChunks.f 300000 l n = some true := by
  have hn := u8_in.1 h1
  unfold law08_CmlChunks.f
  rw [few_run]
  simp only [Option.bind_some]
  rw [nzK_in (by decide)]
  have e1 : IntKind.i64.wrap n = n := i64_wrap (by omega) (by omega)
  have e2 : Int.tmod n 8 = n % 8 := Int.tmod_eq_emod_of_nonneg hn.1
  rw [e1, e2, i64_wrap (by omega) (by omega)]
  obtain ⟨c, hc, hc1⟩ : ∃ c : Nat, n % 8 + 1 = (c : Int) ∧ 1 ≤ c := ⟨(n % 8 + 1).toNat, by omega, by omega⟩
  rw [hc]
  exact chunk_loop 299940 (by decide) (l.take 40) (by simp; omega) c hc1 300000 0 _ [] rfl (by simp; omega) (by simp; omega)
end Go.Proofs.Ytggidaedacngbaa.S
