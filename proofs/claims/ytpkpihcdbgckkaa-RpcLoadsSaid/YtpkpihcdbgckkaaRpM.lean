/- A callee out of bytes: RpcLoads. -/
import Derived.Test.YtpkpihcdbgckkaaRpL
set_option linter.unusedVariables false
set_option linter.unusedSimpArgs false
namespace Go.Proofs.Ytpkpihcdbgckkaa.S
open Go Go.Proofs Go.Proofs.Bw

def Byt (l : List Int) : Prop := ∀ x ∈ l, 0 ≤ x ∧ x < 256
theorem Byt.take {l : List Int} (h : Byt l) (k : Nat) : Byt (l.take k) := fun x hx => h x (List.mem_of_mem_take hx)
theorem Byt.drop {l : List Int} (h : Byt l) (k : Nat) : Byt (l.drop k) := fun x hx => h x (List.mem_of_mem_drop hx)
def beN (l : List Int) : Int := l.foldl (fun n x => n * 256 + x) 0
theorem beN_snoc (l : List Int) (x : Int) : beN (l ++ [x]) = beN l * 256 + x := by simp [beN]
theorem beN_take {l : List Int} {i : Nat} {e : Int} (h : l[i]? = some e) : beN (l.take (i + 1)) = beN (l.take i) * 256 + e := by
  obtain ⟨h1, h2⟩ := List.getElem?_eq_some_iff.1 h
  rw [List.take_succ_eq_append_getElem h1, h2, beN_snoc]
theorem beN_lt {l : List Int} (h : Byt l) : ∀ i : Nat, i ≤ l.length → 0 ≤ beN (l.take i) ∧ beN (l.take i) < 256 ^ i
  | 0, _ => by simp [beN]
  | i + 1, hi => by
    have ih := beN_lt h i (by omega)
    have he : l[i]? = some l[i] := List.getElem?_eq_getElem (by omega)
    have hb := h l[i] (List.getElem_mem _)
    rw [beN_take he, Int.pow_succ]
    omega
theorem beN_lt3 {l : List Int} (h : Byt l) {i : Nat} (hi : i ≤ l.length) (h3 : i ≤ 3) : 0 ≤ beN (l.take i) ∧ beN (l.take i) < 16777216 := by
  have := beN_lt h i hi
  have h' : i = 0 ∨ i = 1 ∨ i = 2 ∨ i = 3 := by omega
  rcases h' with rfl | rfl | rfl | rfl <;> omega
theorem ior_comm (k : IntKind) (a b : Int) : ior k a b = ior k b a := by unfold ior; rw [BitVec.or_comm]
theorem cut0 {b : List Int} {m : Int} : cut b 0 m = b.take m.toNat := rfl
theorem cutE {b : List Int} {m : Int} : cut b m (b.length : Int) = b.drop m.toNat := by unfold cut; rw [Int.toNat_natCast, List.take_length]

/-! a number, by the program -/
theorem NumA_loop (n : Nat) (m : Int) (b c : List Int) (hc : Byt c) (h4 : c.length ≤ 4) : ∀ k i : Nat, i ≤ c.length → c.length - i < k →
    rpc_LoadCallee_1.l2 n k m b (beN (c.take i)) c (c.length : Int) (i : Int) = rpc_LoadCallee_1.j1 n m b (beN c)
  | 0, i, _, h => by omega
  | k + 1, i, hi, h => by
    rw [rpc_LoadCallee_1.l2]
    by_cases hlt : i < c.length
    · have hg : c[i]? = some c[i] := List.getElem?_eq_getElem hlt
      have hb := hc c[i] (List.getElem_mem _)
      generalize c[i] = e at hg hb
      have hv := beN_lt3 hc (i := i) (by omega) (by omega)
      rw [decide_eq_true (show (i : Int) < (c.length : Int) by omega), cond_true, idxK_at (e := e) (by omega) (by rw [Int.toNat_natCast]; exact hg), geK_in (by decide), rpc_LoadCallee_1.j3]
      have hw : IntKind.u32.wrap e = e := by rw [u32_wrap]; omega
      have hor : ior IntKind.u32 (ishl IntKind.u32 (beN (c.take i)) ((8 : Int)).toNat) e = beN (c.take (i + 1)) := by
        rw [beN_take hg, ior_comm, show ((8 : Int)).toNat = 8 from rfl, or_u32 (by omega) (by omega) (by omega) (by omega) (by decide)]
        omega
      rw [hw, hor, i64_wrap (by omega) (by omega), show (i : Int) + 1 = ((i + 1 : Nat) : Int) by omega]
      exact NumA_loop n m b c hc h4 k (i + 1) (by omega) (by omega)
    · rw [decide_eq_false (by omega), cond_false, List.take_of_length_le (by omega)]
theorem NumA (n : Nat) (hn : 10 < n) (b : List Int) (hb : Byt b) (m : Int) (h0 : 0 ≤ m) (h4 : m ≤ 4) : rpc_LoadCallee_1.f n m b = some (if (b.length : Int) < m then (b, 0, false, ()) else (b.drop m.toNat, beN (b.take m.toNat), true, ())) := by
  unfold rpc_LoadCallee_1.f
  by_cases h : (b.length : Int) < m
  · rw [decide_eq_true h, cond_true, if_pos h]
  · rw [decide_eq_false h, cond_false, if_neg h, sliceK_in (by omega) (by omega) (by omega), cut0]
    have hl : (b.take m.toNat).length ≤ 4 := by rw [List.length_take]; omega
    have := NumA_loop n m b (b.take m.toNat) (hb.take _) hl n 0 (by omega) (by omega)
    refine Eq.trans this ?_
    unfold rpc_LoadCallee_1.j1
    rw [sliceK_in (by omega) (by omega) (by omega), cutE]
/-! and by the document -/
theorem NumB_loop (n : Nat) (b : List Int) (hb : Byt b) (m : Nat) (hm : m ≤ 4) (hl : m ≤ b.length) : ∀ k i : Nat, i ≤ m → m - i < k →
    r07_Reader_Number.l2 n k (b, false, ()) (m : Int) (beN (b.take i)) (i : Int) = some ((b.drop m, false, ()), beN (b.take m))
  | 0, i, _, h => by omega
  | k + 1, i, hi, h => by
    rw [r07_Reader_Number.l2]
    by_cases hlt : i < m
    · have hg : b[i]? = some (b[i]'(by omega)) := List.getElem?_eq_getElem (by omega)
      have hbb := hb (b[i]'(by omega)) (List.getElem_mem _)
      generalize (b[i]'(by omega)) = e at hg hbb
      have hv := beN_lt3 hb (i := i) (by omega) (by omega)
      rw [decide_eq_true (show (i : Int) < (m : Int) by omega), cond_true, idxK_at (e := e) (by omega) (by rw [Int.toNat_natCast]; exact hg), r07_Reader_Number.j3]
      have hw : IntKind.u64.wrap (IntKind.u64.wrap (beN (b.take i) * (256 : Int)) + IntKind.u64.wrap e) = beN (b.take (i + 1)) := by
        rw [beN_take hg, u64_wrap, u64_wrap, u64_wrap]; omega
      rw [hw, i64_wrap (by omega) (by omega), show (i : Int) + 1 = ((i + 1 : Nat) : Int) by omega]
      exact NumB_loop n b hb m hm hl k (i + 1) (by omega) (by omega)
    · have : i = m := by omega
      subst this
      rw [decide_eq_false (by omega), cond_false, r07_Reader_Number.j1]
      show sliceK (i : Int) (b.length : Int) b.length (some ((cut b (i : Int) (b.length : Int), false, ()), beN (b.take i))) = _
      rw [sliceK_in (by omega) (by omega) (by omega), cutE, Int.toNat_natCast]
theorem NumB (n : Nat) (hn : 10 < n) (b : List Int) (hb : Byt b) (m : Int) (h0 : 0 ≤ m) (h4 : m ≤ 4) : r07_Reader_Number.f n (b, false, ()) m = some (if (b.length : Int) < m then ((b, true, ()), 0) else ((b.drop m.toNat, false, ()), beN (b.take m.toNat))) := by
  unfold r07_Reader_Number.f
  simp only [cond_false, Option.bind_some]
  by_cases h : (b.length : Int) < m
  · rw [decide_eq_true h, cond_true, if_pos h]
  · obtain ⟨k, rfl⟩ := Int.eq_ofNat_of_zero_le h0
    rw [decide_eq_false h, cond_false, if_neg h, Int.toNat_natCast]
    exact NumB_loop n b hb k (by omega) (by omega) n 0 (by omega) (by omega)
theorem NumBad (n : Nat) (b : List Int) (m : Int) : r07_Reader_Number.f n (b, true, ()) m = some ((b, true, ()), 0) := rfl
theorem TakeBad (n : Nat) (b : List Int) (m : Int) : r07_Reader_Take.f n (b, true, ()) m = some ((b, true, ()), []) := rfl
theorem TakeB (n : Nat) (b : List Int) (m : Int) (h0 : 0 ≤ m) (hm : m ≤ 100000) : r07_Reader_Take.f n (b, false, ()) m = some (if (b.length : Int) < m then ((b, true, ()), []) else ((b.drop m.toNat, false, ()), b.take m.toNat)) := by
  unfold r07_Reader_Take.f
  simp only [cond_false, Option.bind_some]
  by_cases h : (b.length : Int) < m
  · rw [decide_eq_true h, cond_true, if_pos h]
  · rw [decide_eq_false h, cond_false, if_neg h, cut0, cutE, sliceK_in (by omega) (by omega) (by omega), appK_in (by rw [List.length_take]; simp; omega), sliceK_in (by omega) (by omega) (by omega)]
    rfl
/-- what a callee knows of one client, out of bytes, and the rest -/
def stepP (b : List Int) : Option (Dpast × List Int) :=
  if (b.length : Int) < 1 then none else
  if 2 < beN (b.take 1) then none else
  if beN (b.take 1) = 0 then some (z0, b.drop 1) else
  if ((b.drop 1).length : Int) < 4 then none else
  if (((b.drop 1).drop 4).length : Int) < 4 then none else
  if beN (((b.drop 1).drop 4).take 4) = 0 then none else
  if beN (b.take 1) = 2 then
    (if ((((b.drop 1).drop 4).drop 4).length : Int) < 2 then none else
     if 16384 < beN ((((b.drop 1).drop 4).drop 4).take 2) then none else
     if (((((b.drop 1).drop 4).drop 4).drop 2).length : Int) < beN ((((b.drop 1).drop 4).drop 4).take 2) then none else
     some ((2, beN ((b.drop 1).take 4), beN (((b.drop 1).drop 4).take 4), ((((b.drop 1).drop 4).drop 4).drop 2).take (beN ((((b.drop 1).drop 4).drop 4).take 2)).toNat, ()), ((((b.drop 1).drop 4).drop 4).drop 2).drop (beN ((((b.drop 1).drop 4).drop 4).take 2)).toNat))
  else some ((beN (b.take 1), beN ((b.drop 1).take 4), beN (((b.drop 1).drop 4).take 4), [], ()), ((b.drop 1).drop 4).drop 4)
theorem beN4 {b : List Int} (hb : Byt b) (h : 4 ≤ b.length) : be4 (beN (b.take 4)) = b.take 4 ∧ U32 (beN (b.take 4)) := by
  match b, h with
  | x :: y :: z :: v :: r, _ =>
    have h1 := hb x (by simp)
    have h2 := hb y (by simp)
    have h3 := hb z (by simp)
    have h4 := hb v (by simp)
    have e : beN ((x :: y :: z :: v :: r).take 4) = ((x * 256 + y) * 256 + z) * 256 + v := by simp [beN]
    rw [e]
    refine ⟨?_, by constructor <;> omega⟩
    simp only [be4, List.take_succ_cons, List.take_zero, List.cons.injEq, and_true]
    omega
theorem beN2 {b : List Int} (hb : Byt b) (h : 2 ≤ b.length) : be2 (beN (b.take 2)) = b.take 2 ∧ 0 ≤ beN (b.take 2) ∧ beN (b.take 2) < 65536 := by
  match b, h with
  | x :: y :: r, _ =>
    have h1 := hb x (by simp)
    have h2 := hb y (by simp)
    have e : beN ((x :: y :: r).take 2) = x * 256 + y := by simp [beN]
    rw [e]
    refine ⟨?_, by omega, by omega⟩
    simp only [be2, List.take_succ_cons, List.take_zero, List.cons.injEq, and_true]
    omega
theorem beN1 {b : List Int} (hb : Byt b) (h : 1 ≤ b.length) : [beN (b.take 1)] = b.take 1 ∧ 0 ≤ beN (b.take 1) ∧ beN (b.take 1) < 256 := by
  match b, h with
  | x :: r, _ =>
    have h1 := hb x (by simp)
    have e : beN ((x :: r).take 1) = x := by simp [beN]
    rw [e]
    exact ⟨by simp, by omega, by omega⟩
theorem stepP_enc {b : List Int} (hb : Byt b) {e : Dpast} {r : List Int} (h : stepP b = some (e, r)) : b = encP e ++ r ∧ Past e ∧ Byt r := by
  unfold stepP at h
  split at h; · cases h
  rename_i c1
  split at h; · cases h
  rename_i c2
  have g1 := beN1 hb (by omega)
  have s1 : b = b.take 1 ++ b.drop 1 := (List.take_append_drop 1 b).symm
  split at h
  · rename_i c3
    simp only [Option.some.injEq, Prod.mk.injEq] at h
    obtain ⟨rfl, rfl⟩ := h
    refine ⟨?_, ⟨.inl rfl, ⟨by decide, by decide⟩, ⟨by decide, by decide⟩, by simp [z0]⟩, hb.drop _⟩
    conv => lhs; rw [s1, ← g1.1, c3]
    rfl
  rename_i c3
  split at h; · cases h
  rename_i c4
  split at h; · cases h
  rename_i c5
  split at h; · cases h
  rename_i c6
  have hb1 := hb.drop 1
  have hb2 := hb1.drop 4
  have hb3 := hb2.drop 4
  generalize b.drop 1 = b1 at *
  have s2 : b1 = b1.take 4 ++ b1.drop 4 := (List.take_append_drop 4 b1).symm
  have g2 := beN4 hb1 (by omega)
  generalize b1.drop 4 = b2 at *
  have s3 : b2 = b2.take 4 ++ b2.drop 4 := (List.take_append_drop 4 b2).symm
  have g3 := beN4 hb2 (by omega)
  generalize b2.drop 4 = b3 at *
  have hs : b = [beN (b.take 1)] ++ be4 (beN (b1.take 4)) ++ be4 (beN (b2.take 4)) ++ b3 := by
    conv => lhs; rw [s1, s2, s3, ← g1.1, ← g2.1, ← g3.1]
    simp
  split at h
  · rename_i c7
    split at h; · cases h
    rename_i c8
    split at h; · cases h
    rename_i c9
    split at h; · cases h
    rename_i c10
    have hb4 := hb3.drop 2
    have s4 : b3 = b3.take 2 ++ b3.drop 2 := (List.take_append_drop 2 b3).symm
    have g4 := beN2 hb3 (by omega)
    generalize b3.drop 2 = b4 at *
    simp only [Option.some.injEq, Prod.mk.injEq] at h
    obtain ⟨rfl, rfl⟩ := h
    have s5 : b4 = b4.take (beN (b3.take 2)).toNat ++ b4.drop (beN (b3.take 2)).toNat := (List.take_append_drop _ b4).symm
    have hlen : (((b4.take (beN (b3.take 2)).toNat).length : Nat) : Int) = beN (b3.take 2) := by rw [List.length_take]; omega
    refine ⟨?_, ⟨.inr (.inr rfl), g2.2, g3.2, ?_⟩, hb4.drop _⟩
    · rw [hs, c7]
      unfold encP
      simp only [hlen, if_neg (show ¬ (2 : Int) = 0 by decide), if_pos (show (2 : Int) = 2 from rfl), g4.1]
      conv => lhs; rw [s4, s5]
      simp
    · show (b4.take (beN (b3.take 2)).toNat).length ≤ 16384
      rw [List.length_take]; omega
  · rename_i c7
    simp only [Option.some.injEq, Prod.mk.injEq] at h
    obtain ⟨rfl, rfl⟩ := h
    refine ⟨?_, ⟨.inr (.inl (by simp only []; omega)), g2.2, g3.2, by simp⟩, hb3⟩
    conv => lhs; rw [hs]
    unfold encP
    simp only [if_neg c3, if_neg c7, List.append_nil]
theorem lset_lset {α : Type} (l : List α) (i : Int) (x y : α) : lset (lset l i x) i y = lset l i y := by unfold lset; simp
theorem LoadA_step (n k : Nat) (hn : 10 < n) (b : List Int) (hb : Byt b) (l : List Dpast) (hl : l.length = 3) (i : Nat) (hi : i < 3) (hz : l[i]? = some z0) :
    rpc_LoadCallee.l2 n (k + 1) b (l, ()) () (i : Int) = match stepP b with
      | none => some (none, 3, ())
      | some p => rpc_LoadCallee.l2 n k p.2 (l.set i p.1, ()) () ((i + 1 : Nat) : Int) := by
  have hs : ∀ x, lset l (i : Int) x = l.set i x := fun x => by unfold lset; rw [Int.toNat_natCast]
  have hn1 : ∀ x, lnth (l.set i x) (i : Int) = some x := fun x => lnth_at (j := i) rfl (by rw [List.getElem?_set_self (by omega)])
  have hn0 : lnth l (i : Int) = some z0 := lnth_at (j := i) rfl hz
  have hw : IntKind.i64.wrap ((i : Int) + 1) = ((i + 1 : Nat) : Int) := by rw [i64_wrap (by omega) (by omega)]; omega
  have hset : ∀ x y, lset (l.set i x) (i : Int) y = l.set i y := fun x y => by unfold lset; rw [Int.toNat_natCast, List.set_set]
  rw [rpc_LoadCallee.l2, decide_eq_true (show (i : Int) < 3 by omega), cond_true, inK'_in (by omega) (by omega), NumA n hn b hb 1 (by decide) (by decide)]
  simp only [Option.bind_some, Int.reduceToNat]
  unfold stepP
  by_cases c1 : (b.length : Int) < 1
  · simp [c1]
  · have g1 := beN1 hb (by omega)
    simp only [if_neg c1]
    by_cases c2 : 2 < beN (b.take 1)
    · simp [c2]
    · have w1 : IntKind.u8.wrap (beN (b.take 1)) = beN (b.take 1) := by rw [u8_wrap]; omega
      simp only [c2, Bool.not_true, cond_false, decide_false, Option.bind_some, if_false, hn0, hs, hn1, w1, hset]
      by_cases c3 : beN (b.take 1) = 0
      · simp only [c3, decide_true, cond_true, if_true, rpc_LoadCallee.j3, hw]
        rfl
      · have hb1 := hb.drop 1
        have hb2 := hb1.drop 4
        have hb3 := hb2.drop 4
        rw [NumA n hn _ hb1 4 (by decide) (by decide)]
        simp only [c3, decide_false, cond_false, if_false, Option.bind_some, Int.reduceToNat]
        by_cases c4 : ((b.drop 1).length : Int) < 4
        · simp only [if_pos c4]
          rw [NumA n hn _ hb1 4 (by decide) (by decide)]
          simp [c4]
        · simp only [if_neg c4]
          rw [NumA n hn _ hb2 4 (by decide) (by decide)]
          simp only [Option.bind_some, Int.reduceToNat]
          by_cases c5 : (((b.drop 1).drop 4).length : Int) < 4
          · simp only [if_pos c5]; rfl
          · simp only [if_neg c5, Bool.not_true, cond_false, Option.bind_some]
            by_cases c6 : beN (((b.drop 1).drop 4).take 4) = 0
            · simp only [c6, decide_true, cond_true, if_true]
            · simp only [c6, decide_false, cond_false, if_false]
              by_cases c7 : beN (b.take 1) = 2
              · simp only [c7, decide_true, cond_true, if_true]
                rw [NumA n hn _ hb3 2 (by decide) (by decide)]
                simp only [Option.bind_some, Int.reduceToNat]
                by_cases c8 : ((((b.drop 1).drop 4).drop 4).length : Int) < 2
                · simp only [if_pos c8]; rfl
                · have g4 := beN2 hb3 (by omega)
                  have w4 : IntKind.i64.wrap (beN ((((b.drop 1).drop 4).drop 4).take 2)) = beN ((((b.drop 1).drop 4).drop 4).take 2) := by rw [i64_wrap (by omega) (by omega)]
                  simp only [if_neg c8, Bool.not_true, cond_false, Option.bind_some, w4]
                  by_cases c9 : 16384 < beN ((((b.drop 1).drop 4).drop 4).take 2)
                  · simp only [c9, decide_true, cond_true, if_true, Option.bind_some]
                  · simp only [c9, decide_false, cond_false, if_false, Option.bind_some]
                    by_cases c10 : (((((b.drop 1).drop 4).drop 4).drop 2).length : Int) < beN ((((b.drop 1).drop 4).drop 4).take 2)
                    · simp only [c10, decide_true, cond_true, if_true]
                    · simp only [c10, decide_false, cond_false, if_false]
                      rw [sliceK_in (by omega) (by omega) (by omega), sliceK_in (by omega) (by omega) (by omega), cut0, cutE, rpc_LoadCallee.j3, hw]
              · simp only [c7, decide_false, cond_false, if_false, rpc_LoadCallee.j3, hw]
                rfl
theorem LoadB_bad (n : Nat) (b : List Int) : ∀ (j k : Nat) (c : DCallee') (x : Int), x + (j : Int) = 4 → 1 ≤ x → j < k → r11_LoadCallee.l2 n k (b, true, ()) c x = some (none, 3, ())
  | 0, k, c, x, h, _, hk => by
    obtain ⟨k, rfl⟩ : ∃ m, k = m + 1 := ⟨k - 1, by omega⟩
    rw [r11_LoadCallee.l2, decide_eq_false (by omega)]
    rfl
  | j + 1, k, c, x, h, hx, hk => by
    obtain ⟨k, rfl⟩ : ∃ m, k = m + 1 := ⟨k - 1, by omega⟩
    rw [r11_LoadCallee.l2, decide_eq_true (by omega), cond_true, NumBad]
    have h0 : IntKind.i64.wrap (0 : Int) = 0 := by rw [i64_wrap (by omega) (by omega)]
    simp only [Option.bind_some, h0, show decide ((2 : Int) < 0) = false from rfl, cond_false, r11_LoadCallee.j4, decide_true, cond_true, r11_LoadCallee.j3]
    rw [i64_wrap (by omega) (by omega)]
    exact LoadB_bad n b j k c (x + 1) (by omega) (by omega) (by omega)
theorem LoadB_step (n k : Nat) (hn : 10 < n) (hk : 5 < k) (b : List Int) (hb : Byt b) (l : List Dpast) (hl : l.length = 3) (i : Nat) (hi : i < 3) (hz : l[i]? = some z0) :
    r11_LoadCallee.l2 n (k + 1) (b, false, ()) (z0 :: l, ()) ((i + 1 : Nat) : Int) = match stepP b with
      | none => some (none, 3, ())
      | some p => r11_LoadCallee.l2 n k (p.2, false, ()) (z0 :: l.set i p.1, ()) ((i + 2 : Nat) : Int) := by
  have hw : IntKind.i64.wrap (((i + 1 : Nat) : Int) + 1) = ((i + 2 : Nat) : Int) := by rw [i64_wrap (by omega) (by omega)]; omega
  have hs : ∀ x, lset (z0 :: l) ((i + 1 : Nat) : Int) x = z0 :: l.set i x := fun x => by unfold lset; rw [Int.toNat_natCast]; rfl
  have b3 : ∀ (r : List Int) (c : DCallee'), r11_LoadCallee.j3 n (r11_LoadCallee.l2 n k) (r, true, ()) c ((i + 1 : Nat) : Int) = some (none, 3, ()) := fun r c => by
    unfold r11_LoadCallee.j3
    rw [hw]
    exact LoadB_bad n r (2 - i) k _ _ (by omega) (by omega) (by omega)
  have b6 : ∀ (r : List Int) (c : DCallee') (x : Dtaken), r11_LoadCallee.j6 n (r11_LoadCallee.l2 n k) (r, true, ()) c ((i + 1 : Nat) : Int) x = some (none, 3, ()) := fun r c x => by
    unfold r11_LoadCallee.j6
    rw [inK'_in (by omega) (by omega)]
    exact b3 r _
  have b7 : ∀ (r : List Int) (c : DCallee') (x : Dtaken) (m : Int), r11_LoadCallee.j7 n (r11_LoadCallee.l2 n k) (r, true, ()) c ((i + 1 : Nat) : Int) x m = some (none, 3, ()) := fun r c x m => by
    unfold r11_LoadCallee.j7
    rw [TakeBad]
    exact b6 r _ _
  have b5 : ∀ (r : List Int) (c : DCallee') (x : Dtaken), r11_LoadCallee.j5 n (r11_LoadCallee.l2 n k) (r, true, ()) c ((i + 1 : Nat) : Int) x = some (none, 3, ()) := fun r c x => by
    unfold r11_LoadCallee.j5
    cases decide (x.1 = 2) with
    | false => exact b6 r _ _
    | true =>
      rw [cond_true, NumBad]
      simp only [Option.bind_some]
      cases decide ((16384 : Int) < IntKind.i64.wrap 0) with
      | true => exact b7 r _ _ _
      | false => exact b7 r _ _ _
  have j6 : ∀ (r : List Int) (x : Dtaken), r11_LoadCallee.j6 n (r11_LoadCallee.l2 n k) (r, false, ()) (z0 :: l, ()) ((i + 1 : Nat) : Int) x = r11_LoadCallee.l2 n k (r, false, ()) (z0 :: l.set i x, ()) ((i + 2 : Nat) : Int) := fun r x => by
    unfold r11_LoadCallee.j6
    rw [inK'_in (by omega) (by omega)]
    simp only [hs, r11_LoadCallee.j3, hw]
  rw [r11_LoadCallee.l2, decide_eq_true (show ((i + 1 : Nat) : Int) ≤ 3 by omega), cond_true, NumB n hn b hb 1 (by decide) (by decide)]
  simp only [Option.bind_some, Int.reduceToNat]
  unfold stepP
  by_cases c1 : (b.length : Int) < 1
  · have h0 : IntKind.i64.wrap (0 : Int) = 0 := by rw [i64_wrap (by omega) (by omega)]
    simp only [if_pos c1, h0, show decide ((2 : Int) < 0) = false from rfl, cond_false, r11_LoadCallee.j4, decide_true, cond_true, Option.bind_some]
    exact b3 _ _
  · have g1 := beN1 hb (by omega)
    have w1 : IntKind.i64.wrap (beN (b.take 1)) = beN (b.take 1) := by rw [i64_wrap (by omega) (by omega)]
    simp only [if_neg c1, w1]
    by_cases c2 : 2 < beN (b.take 1)
    · simp only [c2, decide_true, cond_true, if_true, r11_LoadCallee.j4]
      have : decide (beN (b.take 1) = 0) = false := decide_eq_false (by omega)
      simp only [this, cond_false, Option.bind_some, cond_true]
      exact b3 _ _
    · simp only [c2, decide_false, cond_false, if_false, r11_LoadCallee.j4]
      by_cases c3 : beN (b.take 1) = 0
      · simp only [c3, decide_true, cond_true, if_true, Option.bind_some, r11_LoadCallee.j3, hw]
        have : l.set i z0 = l := by
          apply List.ext_getElem?
          intro m
          by_cases hm : m = i
          · subst hm; rw [List.getElem?_set_self (by omega), hz]
          · rw [List.getElem?_set_ne (fun e => hm e.symm)]
        rw [this]
      · have hb1 := hb.drop 1
        have hb2 := hb1.drop 4
        have hb3 := hb2.drop 4
        simp only [c3, decide_false, cond_false, if_false, Option.bind_some]
        rw [NumB n hn _ hb1 4 (by decide) (by decide)]
        simp only [Option.bind_some, Int.reduceToNat]
        by_cases c4 : ((b.drop 1).length : Int) < 4
        · simp only [if_pos c4, NumBad, Option.bind_some]
          cases decide (IntKind.u32.wrap (0 : Int) = 0) with
          | true => exact b5 _ _ _
          | false => exact b5 _ _ _
        · simp only [if_neg c4]
          rw [NumB n hn _ hb2 4 (by decide) (by decide)]
          simp only [Option.bind_some, Int.reduceToNat]
          by_cases c5 : (((b.drop 1).drop 4).length : Int) < 4
          · simp only [if_pos c5]
            cases decide (IntKind.u32.wrap (0 : Int) = 0) with
            | true => exact b5 _ _ _
            | false => exact b5 _ _ _
          · have g2 := (beN4 hb1 (by omega)).2
            have g3 := (beN4 hb2 (by omega)).2
            have w2 : IntKind.u32.wrap (beN ((b.drop 1).take 4)) = beN ((b.drop 1).take 4) := by rw [u32_wrap]; have := g2.1; have := g2.2; omega
            have w3 : IntKind.u32.wrap (beN (((b.drop 1).drop 4).take 4)) = beN (((b.drop 1).drop 4).take 4) := by rw [u32_wrap]; have := g3.1; have := g3.2; omega
            simp only [if_neg c5, w2, w3]
            by_cases c6 : beN (((b.drop 1).drop 4).take 4) = 0
            · simp only [c6, decide_true, cond_true, if_true]
              exact b5 _ _ _
            · simp only [c6, decide_false, cond_false, if_false, r11_LoadCallee.j5]
              by_cases c7 : beN (b.take 1) = 2
              · simp only [c7, decide_true, cond_true, if_true]
                rw [NumB n hn _ hb3 2 (by decide) (by decide)]
                simp only [Option.bind_some, Int.reduceToNat]
                by_cases c8 : ((((b.drop 1).drop 4).drop 4).length : Int) < 2
                · simp only [if_pos c8]
                  cases decide ((16384 : Int) < IntKind.i64.wrap 0) with
                  | true => exact b7 _ _ _ _
                  | false => exact b7 _ _ _ _
                · have g4 := beN2 hb3 (by omega)
                  have w4 : IntKind.i64.wrap (beN ((((b.drop 1).drop 4).drop 4).take 2)) = beN ((((b.drop 1).drop 4).drop 4).take 2) := by rw [i64_wrap (by omega) (by omega)]
                  simp only [if_neg c8, w4]
                  by_cases c9 : 16384 < beN ((((b.drop 1).drop 4).drop 4).take 2)
                  · simp only [c9, decide_true, cond_true, if_true]
                    exact b7 _ _ _ _
                  · simp only [c9, decide_false, cond_false, if_false, r11_LoadCallee.j7]
                    rw [TakeB n _ _ (by omega) (by omega)]
                    simp only [Option.bind_some]
                    by_cases c10 : (((((b.drop 1).drop 4).drop 4).drop 2).length : Int) < beN ((((b.drop 1).drop 4).drop 4).take 2)
                    · simp only [if_pos c10]
                      exact b6 _ _ _
                    · simp only [if_neg c10]
                      exact j6 _ _
              · simp only [c7, decide_false, cond_false, if_false]
                exact j6 _ _
end Go.Proofs.Ytpkpihcdbgckkaa.S
