/- Frames: the document's answer is the code's; FrameWrites and FrameReads, as plain laws. -/
import Derived.Test.YtmglcaonmbpciaaFrE
set_option linter.unusedVariables false
set_option linter.unusedSimpArgs false
namespace Go.Proofs.Ytmglcaonmbpciaa.S
open Go Go.Proofs Go.Proofs.Bw

def rref (p : DPacket) : Bool := !(decide (3 < p.2.1) || (decide (3 < p.2.2.1) || (decide (p.2.2.2.2.1 = 0) || decide (16384 < (p.2.2.2.2.2.1.length : Int))))) &&
  ((decide (p.1 = 1) && (decide (p.2.2.1 = 0) && !decide (p.2.1 = 0))) || (decide (p.1 = 2) && (decide (p.2.1 = 0) && !decide (p.2.2.1 = 0))))
theorem rref_run (n : Nat) (p : DPacket) : r03_Right.f n p = some (rref p) := by
  unfold r03_Right.f rref
  generalize decide ((3 : Int) < p.2.1) = c1
  generalize decide ((3 : Int) < p.2.2.1) = c2
  generalize decide (p.2.2.2.2.1 = (0 : Int)) = c3
  generalize decide ((16384 : Int) < (p.2.2.2.2.2.1.length : Int)) = c4
  generalize decide (p.1 = (1 : Int)) = c5
  generalize decide (p.2.2.1 = (0 : Int)) = c6
  generalize decide (p.2.1 = (0 : Int)) = c7
  generalize decide (p.1 = (2 : Int)) = c8
  cases c1 <;> cases c2 <;> cases c3 <;> cases c4 <;> cases c5 <;> cases c6 <;> cases c7 <;> cases c8 <;> rfl
theorem rref_right {p : DPacket} (w : Pwf p) : rref p = right p := by
  have h1 := w.f; have h2 := w.t; have h3 := w.s
  unfold isB at h1 h2
  unfold rref right rt
  rw [Bool.eq_iff_iff]
  split
  · rename_i hk
    split
    · simp [hk]; omega
    · simp [hk]; omega
  · rename_i hk
    split
    · rename_i hk2
      split
      · simp [hk2]; omega
      · simp [hk2]; omega
    · rename_i hk2
      simp [hk, hk2]
theorem rRight_run (n : Nat) (p : DPacket) (w : Pwf p) : r03_Right.f n p = some (right p) := by rw [rref_run, rref_right w]
theorem four_run (n : Nat) (x : Int) : r03_four.f n x = some (le4 x) := by
  unfold r03_four.f
  rw [geK_in (by decide), geK_in (by decide), geK_in (by decide), u8_wrap, u8_wrap, u8_wrap, u8_wrap, shr_u32 (by decide), shr_u32 (by decide), shr_u32 (by decide)]
  rfl
theorem rfold_run (n : Nat) (b : List Int) (hb : b.length < 9223372036854775807) : ∀ (k i : Nat) (a : Int), i ≤ b.length → b.length - i < k →
    r01_Fold.l2 n k b a (i : Int) = some (fold a (b.drop i)) := by
  intro k
  induction k with
  | zero => intro i a _ h; omega
  | succ k ih =>
    intro i a hi hk
    rw [r01_Fold.l2]
    by_cases h : i < b.length
    · have h' : ((i : Int) < (b.length : Int)) := by omega
      simp -implicitDefEqProofs only [h', decide_true, cond_true]
      rw [idxK_at (e := b[i]) (by omega) (by simp [h]), r01_Fold.j3, i64_wrap (by omega) (by omega)]
      rw [show ((i : Int) + 1) = ((i + 1 : Nat) : Int) by omega, ih (i + 1) _ (by omega) (by omega), List.drop_eq_getElem_cons h]
      rfl
    · have h' : ¬ ((i : Int) < (b.length : Int)) := by omega
      simp -implicitDefEqProofs only [h', decide_false, cond_false, r01_Fold.j1]
      rw [List.drop_eq_nil_of_le (by omega)]
      rfl
theorem rFold_run (n : Nat) (b : List Int) (hb : b.length < 9223372036854775807) (hn : b.length < n) : r01_Fold.f n b = some (fold0 b) := by
  unfold r01_Fold.f
  have := rfold_run n b hb n 0 2166136261 (by omega) (by omega)
  simpa using this
theorem rEncode_run (n : Nat) (hn : 20000 ≤ n) (p : DPacket) (w : Pwf p) : r03_Encode.f n p = some (if right p = true then (enc p, 0, ()) else ([], 3, ())) := by
  unfold r03_Encode.f
  rw [show (p.1, p.2.1, p.2.2.1, p.2.2.2.1, p.2.2.2.2.1, p.2.2.2.2.2.1, p.2.2.2.2.2.2) = p from rfl, rRight_run n p w]
  cases hr : right p with
  | false => rfl
  | true =>
    have hl := right_len hr
    have l5 : ∀ x : Int, (le4 x).length = 4 := fun _ => rfl
    simp -implicitDefEqProofs only [Option.bind_some, Bool.not_true, cond_false, if_true, four_run]
    rw [appK_in (by simp [l5]), appK_in (by simp [l5]), geK_in (by decide), appK_in (by simp [l5]), appK_in (by simp [l5]; omega)]
    have e : (((([66, 87, p.1, p.2.1, p.2.2.1] ++ le4 p.2.2.2.1) ++ le4 p.2.2.2.2.1) ++ [IntKind.u8.wrap (p.2.2.2.2.2.1.length : Int), IntKind.u8.wrap (ishr IntKind.i64 (p.2.2.2.2.2.1.length : Int) ((8 : Int)).toNat)]) ++ p.2.2.2.2.2.1) = hdr p := by
      rw [u8_wrap, u8_wrap, shr_i64 (by decide)]
      simp only [hdr, List.append_assoc, List.cons_append, List.nil_append]
      rfl
    rw [e, rFold_run n _ (by rw [hdr_len]; omega) (by rw [hdr_len]; omega)]
    simp -implicitDefEqProofs only [Option.bind_some, four_run]
    rw [appK_in (by rw [hdr_len, l5]; omega)]
    rfl
theorem FrameWrites_pure (p : DPacket) (hp : Ty.wf TPacket p) : law03_FrameWrites.f 300000 p = some true := by
  have w := Pwf_wf hp
  unfold law03_FrameWrites.f
  rw [show (p.1, p.2.1, p.2.2.1, p.2.2.2.1, p.2.2.2.2.1, p.2.2.2.2.2.1, p.2.2.2.2.2.2) = p from rfl, Encode_run _ (by decide) p w, rEncode_run _ (by decide) p w, live_run _ (by decide), Right_run, rRight_run _ p w]
  simp -implicitDefEqProofs only [Option.bind_some, cond_true, decide_true]
  cases right p <;> rfl

theorem rnumber_run (n : Nat) (a b c d : Int) (ha : isB a) (hb : isB b) (hc : isB c) (hd : isB d) : r03_number.f n [a, b, c, d] = some (rd4 a b c d) := by
  unfold r03_number.f
  rw [idxK_at (e := a) (by decide) rfl, idxK_at (e := b) (by decide) rfl, geK_in (by decide), idxK_at (e := c) (by decide) rfl, geK_in (by decide), idxK_at (e := d) (by decide) rfl, geK_in (by decide)]
  have e : ∀ (x : Int) (m : Nat), ishl IntKind.u32 (IntKind.u32.wrap x) m = (x % 4294967296 * 2 ^ (min m 32)) % 4294967296 := by
    intro x m
    unfold ishl
    rw [u32_wrap, u32_wrap]
    rfl
  rw [e, e, e]
  simp -implicitDefEqProofs only [u32_wrap]
  unfold isB at ha hb hc hd
  unfold rd4
  rw [show ((2 : Int) ^ (min ((8 : Int)).toNat 32)) = 256 by decide, show ((2 : Int) ^ (min ((16 : Int)).toNat 32)) = 65536 by decide, show ((2 : Int) ^ (min ((24 : Int)).toNat 32)) = 16777216 by decide]
  congr 1
  omega
theorem le4_eq {y a b c d : Int} (hy : 0 ≤ y ∧ y < 4294967296) (ha : isB a) (hb : isB b) (hc : isB c) (hd : isB d) : le4 y = [a, b, c, d] ↔ y = rd4 a b c d := by
  constructor
  · intro h
    simp only [le4, List.cons.injEq, and_true] at h
    obtain ⟨h1, h2, h3, h4⟩ := h
    rw [← h1, ← h2, ← h3, ← h4, rd4_le4 hy.1 hy.2]
  · rintro rfl
    exact le4_rd4 ha hb hc hd
theorem rCut_short (n : Nat) (b : List Int) (h : b.length < 19) : r03_Cut.f n b = some (none3, [], 3, ()) := by
  unfold r03_Cut.f
  have h' : ((b.length : Int) < 19) := by omega
  simp -implicitDefEqProofs only [h', decide_true, cond_true]
  rfl
theorem rCut_run (n : Nat) (b0 b1 k f t e0 e1 e2 e3 s0 s1 s2 s3 l0 l1 : Int) (tl : List Int) (hn : 200000 < n) (hb : tl.length ≤ 100000) (h4 : 4 ≤ tl.length)
    (hk : isB k) (hf : isB f) (ht : isB t) (he0 : isB e0) (he1 : isB e1) (he2 : isB e2) (he3 : isB e3) (hs0 : isB s0) (hs1 : isB s1) (hs2 : isB s2) (hs3 : isB s3) (hl0 : isB l0) (hl1 : isB l1) (htl : ∀ x ∈ tl, isB x) :
    (((tl.length : Int) < l0 + l1 * 256 + 4) → r03_Cut.f n (b0 :: b1 :: k :: f :: t :: e0 :: e1 :: e2 :: e3 :: s0 :: s1 :: s2 :: s3 :: l0 :: l1 :: tl) = some (none3, [], 3, ())) ∧
    ∀ (x y r : List Int), tl = x ++ (y ++ r) → (x.length : Int) = l0 + l1 * 256 → y.length = 4 →
      r03_Cut.f n (b0 :: b1 :: k :: f :: t :: e0 :: e1 :: e2 :: e3 :: s0 :: s1 :: s2 :: s3 :: l0 :: l1 :: tl) =
        some (if right (k, f, t, rd4 e0 e1 e2 e3, rd4 s0 s1 s2 s3, x, ()) = true ∧ enc (k, f, t, rd4 e0 e1 e2 e3, rd4 s0 s1 s2 s3, x, ()) = b0 :: b1 :: k :: f :: t :: e0 :: e1 :: e2 :: e3 :: s0 :: s1 :: s2 :: s3 :: l0 :: l1 :: (x ++ y) then
          ((k, f, t, rd4 e0 e1 e2 e3, rd4 s0 s1 s2 s3, x, ()), r, 0, ())
        else (none3, [], 3, ())) := by
  have hl : (b0 :: b1 :: k :: f :: t :: e0 :: e1 :: e2 :: e3 :: s0 :: s1 :: s2 :: s3 :: l0 :: l1 :: tl).length = tl.length + 15 := by simp
  unfold isB at hl0 hl1
  have a1 : IntKind.i64.wrap l0 = l0 := i64_wrap (by omega) (by omega)
  have a2 : IntKind.i64.wrap l1 = l1 := i64_wrap (by omega) (by omega)
  have a3 : IntKind.i64.wrap (l1 * 256) = l1 * 256 := i64_wrap (by omega) (by omega)
  have a4 : IntKind.i64.wrap (l0 + l1 * 256) = l0 + l1 * 256 := i64_wrap (by omega) (by omega)
  have a5 : IntKind.i64.wrap (19 + (l0 + l1 * 256)) = 19 + (l0 + l1 * 256) := i64_wrap (by omega) (by omega)
  have a6 : IntKind.i64.wrap (15 + (l0 + l1 * 256)) = 15 + (l0 + l1 * 256) := i64_wrap (by omega) (by omega)
  have h' : ¬ (((tl.length + 15 : Nat) : Int) < 19) := by omega
  have step : ∀ {A B : Option (DPacket × (List Int) × Int × Unit)}, A = B → A = B := fun h => h
  constructor
  · intro hlt
    unfold r03_Cut.f
    rw [hl]
    simp -implicitDefEqProofs only [h', decide_false, cond_false]
    rw [idxK_at (e := l0) (by decide) (by simp), idxK_at (e := l1) (by decide) (by simp), a1, a2, a3, a4, a5]
    have : (((tl.length + 15 : Nat) : Int) < 19 + (l0 + l1 * 256)) := by omega
    simp -implicitDefEqProofs only [this, decide_true, cond_true]
    rfl
  · intro x y r e hx hy
    unfold r03_Cut.f
    rw [hl]
    simp -implicitDefEqProofs only [h', decide_false, cond_false]
    rw [idxK_at (e := l0) (by decide) (by simp), idxK_at (e := l1) (by decide) (by simp), a1, a2, a3, a4, a5, a6]
    subst e
    have hlen : (x ++ (y ++ r)).length = x.length + 4 + r.length := by simp [hy]; omega
    have q0 : (15 + (l0 + l1 * 256) : Int) = ((15 + x.length : Nat) : Int) := by omega
    have q1 : (19 + (l0 + l1 * 256) : Int) = ((19 + x.length : Nat) : Int) := by omega
    rw [q0, q1]
    have hge : ¬ ((((x ++ (y ++ r)).length + 15 : Nat) : Int) < ((19 + x.length : Nat) : Int)) := by rw [hlen]; omega
    simp -implicitDefEqProofs only [hge, decide_false, cond_false]
    rw [idxK_at (e := k) (by decide) rfl, idxK_at (e := f) (by decide) rfl, idxK_at (e := t) (by decide) rfl]
    have c1 : cut (b0 :: b1 :: k :: f :: t :: e0 :: e1 :: e2 :: e3 :: s0 :: s1 :: s2 :: s3 :: l0 :: l1 :: (x ++ (y ++ r))) 5 9 = [e0, e1, e2, e3] := rfl
    have c2 : cut (b0 :: b1 :: k :: f :: t :: e0 :: e1 :: e2 :: e3 :: s0 :: s1 :: s2 :: s3 :: l0 :: l1 :: (x ++ (y ++ r))) 9 13 = [s0, s1, s2, s3] := rfl
    have c3 : cut (b0 :: b1 :: k :: f :: t :: e0 :: e1 :: e2 :: e3 :: s0 :: s1 :: s2 :: s3 :: l0 :: l1 :: (x ++ (y ++ r))) 15 ((15 + x.length : Nat) : Int) = x := cut5 [b0, b1, k, f, t, e0, e1, e2, e3, s0, s1, s2, s3, l0, l1] x (y ++ r) rfl
    have hxy : (x ++ y).length = x.length + 4 := by simp [hy]
    have c4 : cut (b0 :: b1 :: k :: f :: t :: e0 :: e1 :: e2 :: e3 :: s0 :: s1 :: s2 :: s3 :: l0 :: l1 :: (x ++ (y ++ r))) 0 ((19 + x.length : Nat) : Int) = b0 :: b1 :: k :: f :: t :: e0 :: e1 :: e2 :: e3 :: s0 :: s1 :: s2 :: s3 :: l0 :: l1 :: (x ++ y) := by
      have := cut1 [b0, b1, k, f, t, e0, e1, e2, e3, s0, s1, s2, s3, l0, l1] (x ++ y) r rfl
      rw [hxy, List.append_assoc, show 15 + (x.length + 4) = 19 + x.length by omega] at this
      exact this
    have c5 : cut (b0 :: b1 :: k :: f :: t :: e0 :: e1 :: e2 :: e3 :: s0 :: s1 :: s2 :: s3 :: l0 :: l1 :: (x ++ (y ++ r))) ((19 + x.length : Nat) : Int) (((x ++ (y ++ r)).length + 15 : Nat) : Int) = r := by
      have := cut2 [b0, b1, k, f, t, e0, e1, e2, e3, s0, s1, s2, s3, l0, l1] (x ++ y) r rfl
      rw [hxy, List.append_assoc, show 15 + (x.length + 4) = 19 + x.length by omega] at this
      exact this
    have hu : ∀ {a b c d : Int}, isB a → isB b → isB c → isB d → 0 ≤ rd4 a b c d ∧ rd4 a b c d < 4294967296 := by
      intro a b c d ha hb hc hd
      unfold isB at ha hb hc hd
      unfold rd4; omega
    have wp : Pwf (k, f, t, rd4 e0 e1 e2 e3, rd4 s0 s1 s2 s3, x, ()) := ⟨hk, hf, ht, hu he0 he1 he2 he3, hu hs0 hs1 hs2 hs3, fun z hz => htl z (by simp [hz])⟩
    rw [sliceK_in (by decide) (by decide) (by omega), c1, rnumber_run n _ _ _ _ he0 he1 he2 he3]
    simp -implicitDefEqProofs only [Option.bind_some]
    rw [sliceK_in (by decide) (by decide) (by omega), c2, rnumber_run n _ _ _ _ hs0 hs1 hs2 hs3]
    simp -implicitDefEqProofs only [Option.bind_some]
    rw [sliceK_in (by decide) (by omega) (by rw [hlen]; omega), c3, rEncode_run n (by omega) _ wp]
    by_cases hr : right (k, f, t, rd4 e0 e1 e2 e3, rd4 s0 s1 s2 s3, x, ()) = true
    · rw [if_pos hr]
      simp -implicitDefEqProofs only [Option.bind_some, decide_true, Bool.not_true, cond_false]
      rw [sliceK_in (by decide) (by omega) (by rw [hlen]; omega), c4]
      simp -implicitDefEqProofs only [Option.bind_some, hr, true_and]
      by_cases he : enc (k, f, t, rd4 e0 e1 e2 e3, rd4 s0 s1 s2 s3, x, ()) = b0 :: b1 :: k :: f :: t :: e0 :: e1 :: e2 :: e3 :: s0 :: s1 :: s2 :: s3 :: l0 :: l1 :: (x ++ y)
      · simp -implicitDefEqProofs only [he, decide_true, Bool.not_true, cond_false, if_true]
        rw [sliceK_in (by omega) (by rw [hlen]; omega) (by omega), c5, appK_in (by simp; simp at hb; omega)]
        rfl
      · simp -implicitDefEqProofs only [he, decide_false, Bool.not_false, cond_true, if_false]
        rfl
    · rw [if_neg hr, if_neg (fun h => hr h.1)]
      rfl
end Go.Proofs.Ytmglcaonmbpciaa.S
