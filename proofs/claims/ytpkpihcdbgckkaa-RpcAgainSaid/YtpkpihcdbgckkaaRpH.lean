/- What a callee knows, as bytes: both say the same. -/
import Derived.Test.YtpkpihcdbgckkaaRpG
set_option linter.unusedVariables false
set_option linter.unusedSimpArgs false
namespace Go.Proofs.Ytpkpihcdbgckkaa.S
open Go Go.Proofs Go.Proofs.Bw

def be4 (x : Int) : List Int := [x / 16777216 % 256, x / 65536 % 256, x / 256 % 256, x % 256]
def be2 (x : Int) : List Int := [x / 256 % 256, x % 256]
def encP (e : Dpast) : List Int := if e.1 = 0 then [0] else [e.1] ++ be4 e.2.1 ++ be4 e.2.2.1 ++ (if e.1 = 2 then be2 (e.2.2.2.1.length : Int) ++ e.2.2.2.1 else [])
theorem put_run (n : Nat) (a : List Int) (x : Int) (ha : a.length ≤ 1000000) (hx : U32 x) : rpc_put.f n a x = some (a ++ be4 x) := by
  unfold rpc_put.f
  rw [geK_in (by decide), geK_in (by decide), geK_in (by decide), appK_in (by simp only [List.length_cons, List.length_nil]; omega)]
  rw [shr_u32 (by decide), shr_u32 (by decide), shr_u32 (by decide)]
  simp only [u8_wrap, be4]
  rfl
theorem shr_u64 {x : Int} {m : Nat} (hm : m ≤ 64) : ishr .u64 x m = x / 2 ^ m := by
  unfold ishr
  rw [show min m (IntKind.bits .u64) = m by simp [IntKind.bits]; omega]
  rw [Int.fdiv_eq_ediv_of_nonneg]
  exact Int.le_of_lt (Int.pow_pos (by decide))
theorem Put_step (n k : Nat) (x : Int) (acc : List Int) (i : Nat) (hi : i < 8) (ha : acc.length ≤ 100) : r07_Put.l2 n (k + 1) x acc (i : Int) = r07_Put.l2 n k x (acc ++ [x / 2 ^ (8 * i) % 256]) ((i : Int) - 1) := by
  rw [r07_Put.l2, decide_eq_true (show (0 : Int) ≤ (i : Int) by omega), cond_true, i64_wrap (by omega) (by omega), geK_in (by omega), appK_in (by simp only [List.length_cons, List.length_nil]; omega)]
  unfold r07_Put.j3
  rw [show ((8 : Int) * (i : Int)).toNat = 8 * i by omega, shr_u64 (by omega), u8_wrap, i64_wrap (by omega) (by omega)]
theorem Put_end (n k : Nat) (x : Int) (acc : List Int) : r07_Put.l2 n (k + 1) x acc (-1) = some acc := by
  rw [r07_Put.l2]
  rfl
theorem Put4_run (n : Nat) (hn : 10 < n) (x : Int) (hx : U32 x) : r07_Put.f n (IntKind.u64.wrap x) 4 = some (be4 x) := by
  have hw : IntKind.u64.wrap x = x := by rw [u64_wrap]; have := hx.1; have := hx.2; omega
  obtain ⟨k, rfl⟩ : ∃ k, n = k + 5 := ⟨n - 5, by omega⟩
  unfold r07_Put.f
  rw [hw, show IntKind.i64.wrap ((4 : Int) - 1) = ((3 : Nat) : Int) from rfl, Put_step _ (k + 4) _ _ 3 (by decide) (by simp), show ((3 : Nat) : Int) - 1 = ((2 : Nat) : Int) from rfl, Put_step _ (k + 3) _ _ 2 (by decide) (by simp),
    show ((2 : Nat) : Int) - 1 = ((1 : Nat) : Int) from rfl, Put_step _ (k + 2) _ _ 1 (by decide) (by simp), show ((1 : Nat) : Int) - 1 = ((0 : Nat) : Int) from rfl, Put_step _ (k + 1) _ _ 0 (by decide) (by simp), show ((0 : Nat) : Int) - 1 = -1 from rfl, Put_end]
  simp [be4]
theorem Put2_run (n : Nat) (hn : 10 < n) (x : Int) (hx : U32 x) : r07_Put.f n (IntKind.u64.wrap x) 2 = some (be2 x) := by
  have hw : IntKind.u64.wrap x = x := by rw [u64_wrap]; have := hx.1; have := hx.2; omega
  obtain ⟨k, rfl⟩ : ∃ k, n = k + 5 := ⟨n - 5, by omega⟩
  unfold r07_Put.f
  rw [hw, show IntKind.i64.wrap ((2 : Int) - 1) = ((1 : Nat) : Int) from rfl, Put_step _ (k + 4) _ _ 1 (by decide) (by simp), show ((1 : Nat) : Int) - 1 = ((0 : Nat) : Int) from rfl, Put_step _ (k + 3) _ _ 0 (by decide) (by simp), show ((0 : Nat) : Int) - 1 = -1 from rfl, Put_end]
  simp [be2]
theorem encP_len {e : Dpast} (h : Past e) : (encP e).length ≤ 20000 := by
  unfold encP
  have := h.2.2.2
  split
  · simp
  · split <;> simp [be4, be2] <;> omega
theorem BytesA_step (n k : Nat) (acc : List Int) (l : List Dpast) (i : Nat) (e : Dpast) (he : l[i]? = some e) (hi : i < 3) (hp : Past e) (ha : acc.length ≤ 100000) : rpc_Callee_Bytes.l2 n (k + 1) acc l (i : Int) = rpc_Callee_Bytes.l2 n k (acc ++ encP e) l ((i + 1 : Nat) : Int) := by
  obtain ⟨st, ep, sq, bd, u⟩ := e
  obtain ⟨h1, h2, h3, h4⟩ := hp
  simp only at h1 h2 h3 h4
  rw [rpc_Callee_Bytes.l2, decide_eq_true (show (i : Int) < 3 by omega), cond_true, idxK_at (by omega) (by simpa using he), appK_in (by simp only [List.length_cons, List.length_nil]; omega)]
  have hj : ∀ (m : List Int), rpc_Callee_Bytes.j3 n (rpc_Callee_Bytes.l2 n k) m l (i : Int) = rpc_Callee_Bytes.l2 n k m l ((i + 1 : Nat) : Int) := fun m => by
    unfold rpc_Callee_Bytes.j3
    rw [i64_wrap (by omega) (by omega), show (i : Int) + 1 = ((i + 1 : Nat) : Int) by omega]
  by_cases s0 : st = 0
  · subst s0
    simp only [decide_true, Bool.not_true, cond_false, rpc_Callee_Bytes.j4, show decide ((0 : Int) = 2) = false from rfl, hj, encP, if_true]
  · simp only [decide_eq_false s0, Bool.not_false, cond_true]
    rw [put_run n _ ep (by simp; omega) h2]
    simp only [Option.bind_some]
    rw [put_run n _ sq (by simp [be4]; omega) h3]
    simp only [Option.bind_some, rpc_Callee_Bytes.j4]
    by_cases s2 : st = 2
    · subst s2
      rw [decide_eq_true (rfl : (2 : Int) = 2), cond_true, geK_in (by decide), appK_in (by simp [be4]; omega), appK_in (by simp [be4]; omega), shr_i64 (by decide), hj]
      simp [encP, u8_wrap, be2]
    · rw [decide_eq_false s2, cond_false, hj]
      simp [encP, s0, s2]
theorem BytesB_step (n k : Nat) (hn : 10 < n) (acc : List Int) (l : List Dpast) (i : Nat) (e : Dpast) (he : l[i]? = some e) (hi : i < 3) (hp : Past e) (ha : acc.length ≤ 100000) : r11_Callee_Bytes.l2 n (k + 1) (some (z0 :: l, ())) acc ((i + 1 : Nat) : Int) = r11_Callee_Bytes.l2 n k (some (z0 :: l, ())) (acc ++ encP e) ((i + 2 : Nat) : Int) := by
  obtain ⟨st, ep, sq, bd, u⟩ := e
  obtain ⟨h1, h2, h3, h4⟩ := hp
  simp only at h1 h2 h3 h4
  rw [r11_Callee_Bytes.l2, decide_eq_true (show ((i + 1 : Nat) : Int) ≤ 3 by omega)]
  simp only [Option.isSome_some, cond_true, Option.bind_some, optM]
  rw [idxK_at (e := (st, ep, sq, bd, u)) (by omega) (by rw [Int.toNat_natCast]; simpa using he), appK_in (by simp only [List.length_cons, List.length_nil]; omega)]
  have hst : IntKind.u8.wrap st = st := by rw [u8_wrap]; omega
  have hj : ∀ (m : List Int), r11_Callee_Bytes.j3 n (r11_Callee_Bytes.l2 n k) (some (z0 :: l, ())) m ((i + 1 : Nat) : Int) = r11_Callee_Bytes.l2 n k (some (z0 :: l, ())) m ((i + 2 : Nat) : Int) := fun m => by
    unfold r11_Callee_Bytes.j3
    rw [i64_wrap (by omega) (by omega), show ((i + 1 : Nat) : Int) + 1 = ((i + 2 : Nat) : Int) by omega]
  simp only [hst]
  by_cases s0 : st = 0
  · subst s0
    simp only [decide_true, cond_true, hj, encP, if_true]
  · simp only [decide_eq_false s0, cond_false]
    rw [Put4_run n hn ep h2]
    simp only [Option.bind_some]
    rw [appK_in (by simp [be4]; omega), Put4_run n hn sq h3]
    simp only [Option.bind_some]
    rw [appK_in (by simp [be4]; omega)]
    by_cases s2 : st = 2
    · subst s2
      rw [decide_eq_true (rfl : (2 : Int) = 2), cond_true, Put2_run n hn _ ⟨by omega, by omega⟩]
      simp only [Option.bind_some]
      rw [appK_in (by simp [be4, be2]; omega), appK_in (by simp [be4, be2]; omega), hj]
      simp [encP]
    · rw [decide_eq_false s2, cond_false, hj]
      simp [encP, s0, s2]
theorem three {l : List Dpast} (h : l.length = 3) : ∃ a b c, l = [a, b, c] := by
  match l, h with
  | [a, b, c], _ => exact ⟨a, b, c, rfl⟩
theorem Bytes_run (n : Nat) (hn : 10 < n) (l : List Dpast) (hl : l.length = 3) (hp : ∀ e ∈ l, Past e) : ∃ bs, rpc_Callee_Bytes.f n (some (l, ())) = some bs ∧ r11_Callee_Bytes.f n (some (z0 :: l, ())) = some bs := by
  obtain ⟨a, b, c, rfl⟩ := three hl
  have pa := hp a (by simp)
  have pb := hp b (by simp)
  have pc := hp c (by simp)
  have la := encP_len pa
  have lb := encP_len pb
  obtain ⟨k, hk⟩ : ∃ k, n = k + 5 := ⟨n - 5, by omega⟩
  refine ⟨(([] ++ encP a) ++ encP b) ++ encP c, ?_, ?_⟩
  · show rpc_Callee_Bytes.l2 n n ([] : List Int) [a, b, c] ((0 : Nat) : Int) = _
    conv => lhs; arg 2; rw [hk]
    rw [BytesA_step n (k + 4) _ _ 0 a rfl (by decide) pa (by simp), BytesA_step n (k + 3) _ _ 1 b rfl (by decide) pb (by simp; omega), BytesA_step n (k + 2) _ _ 2 c rfl (by decide) pc (by simp; omega), rpc_Callee_Bytes.l2]
    rfl
  · show r11_Callee_Bytes.l2 n n (some (z0 :: [a, b, c], ())) ([] : List Int) ((0 + 1 : Nat) : Int) = _
    conv => lhs; arg 2; rw [hk]
    rw [BytesB_step n (k + 4) hn _ _ 0 a rfl (by decide) pa (by simp), BytesB_step n (k + 3) hn _ _ 1 b rfl (by decide) pb (by simp; omega), BytesB_step n (k + 2) hn _ _ 2 c rfl (by decide) pc (by simp; omega), r11_Callee_Bytes.l2]
    rfl
theorem same_run (n : Nat) (hn : 10 < n) (q : Q) (l : List Dpast) (last : DPacket) (I : Inv2 q l last) : law11_both_same.f n (X q l last) = some true := by
  obtain ⟨bs, h1, h2⟩ := Bytes_run n hn l I.len I.past
  obtain ⟨a, b, c, d, e⟩ := q
  unfold law11_both_same.f
  have b1 : rpc_Caller_Busy.f n (X (a, b, c, d, e) l last).1 = some c := rfl
  have b2 : r11_Caller_Busy.f n (X (a, b, c, d, e) l last).2.1 = some c := by cases c <;> rfl
  have d1 : rpc_Caller_Down.f n (X (a, b, c, d, e) l last).1 = some (c && decide (5 < d)) := by
    cases c <;> rfl
  have d2 : r11_Caller_Down.f n (X (a, b, c, d, e) l last).2.1 = some (c && decide (5 < d)) := by
    cases c <;> rfl
  have h1' : rpc_Callee_Bytes.f n (X (a, b, c, d, e) l last).2.2.1 = some bs := h1
  have h2' : r11_Callee_Bytes.f n (X (a, b, c, d, e) l last).2.2.2.1 = some bs := h2
  rw [b1, b2]
  simp only [Option.bind_some, bbeq_self, cond_true]
  rw [d1, d2]
  simp only [Option.bind_some, bbeq_self, cond_true]
  rw [h1', h2']
  simp
end Go.Proofs.Ytpkpihcdbgckkaa.S
