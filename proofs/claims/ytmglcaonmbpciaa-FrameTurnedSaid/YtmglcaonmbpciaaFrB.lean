/- Frames, the plain law's second part: Encode and first. -/
import Derived.Test.YtmglcaonmbpciaaFrA
set_option linter.unusedVariables false
set_option linter.unusedSimpArgs false
namespace Go.Proofs.Ytmglcaonmbpciaa.S
open Go Go.Proofs Go.Proofs.Bw

def rt (p : DPacket) (c : Int) : Bool := decide (1 ≤ c) && (decide (c ≤ 3) && (decide (0 < p.2.2.2.2.1) && decide ((p.2.2.2.2.2.1.length : Int) ≤ 16384)))
def right (p : DPacket) : Bool :=
  if p.1 = 1 then (if p.2.2.1 = 0 then rt p p.2.1 else false) else if p.1 = 2 then (if p.2.1 = 0 then rt p p.2.2.1 else false) else false
theorem right_j (n : Nat) (p : DPacket) (c : Int) : frame_Right.j1 n p c = some (rt p c) := by
  unfold frame_Right.j1 rt
  cases decide ((1 : Int) ≤ c) <;> cases decide (c ≤ (3 : Int)) <;> cases decide ((0 : Int) < p.2.2.2.2.1) <;> rfl
theorem Right_run (n : Nat) (p : DPacket) : frame_Right.f n p = some (right p) := by
  unfold frame_Right.f right
  rw [show (p.1, p.2.1, p.2.2.1, p.2.2.2.1, p.2.2.2.2.1, p.2.2.2.2.2.1, p.2.2.2.2.2.2) = p from rfl, right_j, right_j]
  by_cases h1 : p.1 = 1
  · by_cases h2 : p.2.2.1 = 0 <;> simp [h1, h2]
  · by_cases h3 : p.1 = 2
    · by_cases h2 : p.2.1 = 0 <;> simp [h3, h2]
    · simp [h1, h3]
theorem right_len {p : DPacket} (h : right p = true) : p.2.2.2.2.2.1.length ≤ 16384 := by
  unfold right rt at h
  split at h
  · split at h
    · simp -implicitDefEqProofs only [Bool.and_eq_true, decide_eq_true_eq] at h; omega
    · cases h
  · split at h
    · split at h
      · simp -implicitDefEqProofs only [Bool.and_eq_true, decide_eq_true_eq] at h; omega
      · cases h
    · cases h
structure Pwf (p : DPacket) : Prop where
  k : isB p.1
  f : isB p.2.1
  t : isB p.2.2.1
  e : 0 ≤ p.2.2.2.1 ∧ p.2.2.2.1 < 4294967296
  s : 0 ≤ p.2.2.2.2.1 ∧ p.2.2.2.2.1 < 4294967296
  b : ∀ x ∈ p.2.2.2.2.2.1, isB x
def hdr (p : DPacket) : List Int :=
  66 :: 87 :: p.1 :: p.2.1 :: p.2.2.1 :: (le4 p.2.2.2.1 ++ (le4 p.2.2.2.2.1 ++ ((p.2.2.2.2.2.1.length : Int) % 256 :: (p.2.2.2.2.2.1.length : Int) / 256 % 256 :: p.2.2.2.2.2.1)))
def enc (p : DPacket) : List Int := hdr p ++ le4 (fold0 (hdr p))
theorem hdr_len (p : DPacket) : (hdr p).length = 15 + p.2.2.2.2.2.1.length := by simp [hdr, le4]; omega
theorem enc_len (p : DPacket) : (enc p).length = 19 + p.2.2.2.2.2.1.length := by simp [enc, hdr_len, le4]; omega
def none3 : DPacket := (0, 0, 0, 0, 0, [], ())
theorem Encode_run (n : Nat) (hn : 20000 ≤ n) (p : DPacket) (w : Pwf p) : frame_Encode.f n p = some (if right p = true then (enc p, 0, ()) else ([], 3, ())) := by
  unfold frame_Encode.f
  rw [show (p.1, p.2.1, p.2.2.1, p.2.2.2.1, p.2.2.2.2.1, p.2.2.2.2.2.1, p.2.2.2.2.2.2) = p from rfl, Right_run]
  cases hr : right p with
  | false => rfl
  | true =>
    have hl := right_len hr
    have l5 : ∀ x : Int, (le4 x).length = 4 := fun _ => rfl
    simp -implicitDefEqProofs only [Option.bind_some, Bool.not_true, cond_false, if_true]
    rw [byte_run n _ _ (by simp)]
    simp -implicitDefEqProofs only [Option.bind_some, List.nil_append]
    rw [num_run n (by omega) _ _ w.e.1 (by simp)]
    simp -implicitDefEqProofs only [Option.bind_some]
    rw [num_run n (by omega) _ _ w.s.1 (by simp [l5])]
    simp -implicitDefEqProofs only [Option.bind_some]
    rw [geK_in (by decide), byte_run n _ _ (by simp [l5])]
    simp -implicitDefEqProofs only [Option.bind_some]
    rw [byte_run n _ _ (by simp [l5]; omega)]
    simp -implicitDefEqProofs only [Option.bind_some]
    have e : (((([66, 87, p.1, p.2.1, p.2.2.1] ++ le4 p.2.2.2.1) ++ le4 p.2.2.2.2.1) ++ [IntKind.u8.wrap (p.2.2.2.2.2.1.length : Int), IntKind.u8.wrap (ishr IntKind.i64 (p.2.2.2.2.2.1.length : Int) ((8 : Int)).toNat)]) ++ p.2.2.2.2.2.1) = hdr p := by
      rw [u8_wrap, u8_wrap, shr_i64 (by decide)]
      simp -implicitDefEqProofs only [hdr, List.append_assoc, List.cons_append, List.nil_append]
      rfl
    rw [e, Fold_run n _ (by rw [hdr_len]; omega) (by rw [hdr_len]; omega)]
    simp -implicitDefEqProofs only [Option.bind_some]
    rw [num_run n (by omega) _ _ (fold0_in _).1 (by rw [hdr_len]; omega)]
    rfl

theorem first_short (n : Nat) (b : List Int) (h : b.length < 19) : frame_first.f n b = some (none3, 0, false, ()) := by
  unfold frame_first.f
  have h' : ((b.length : Int) < 19) := by omega
  simp -implicitDefEqProofs only [h', decide_true, cond_true, Option.bind_some]
  rfl
theorem first_head (n : Nat) (b0 b1 : Int) (b : List Int) (h : ¬ (b0 = 66 ∧ b1 = 87)) : frame_first.f n (b0 :: b1 :: b) = some (none3, 0, false, ()) := by
  by_cases h9 : (b0 :: b1 :: b).length < 19
  · exact first_short n _ h9
  unfold frame_first.f
  have h' : ¬ (((b0 :: b1 :: b).length : Int) < 19) := by omega
  simp -implicitDefEqProofs only [h', decide_false, cond_false]
  rw [idxK_at (e := b0) (by decide) rfl]
  by_cases h0 : b0 = 66
  · subst h0
    have h1 : ¬ b1 = 87 := fun e => h ⟨rfl, e⟩
    simp -implicitDefEqProofs only [decide_true, Bool.not_true, Option.bind_some, cond_false]
    rw [idxK_at (e := b1) (by decide) rfl]
    simp -implicitDefEqProofs only [h1, decide_false, Bool.not_false, Option.bind_some, cond_true]
    rfl
  · simp -implicitDefEqProofs only [h0, decide_false, Bool.not_false, Option.bind_some, cond_true]
    rfl
theorem cut1 (h x y : List Int) (hh : h.length = 15) : cut (h ++ (x ++ y)) 0 ((15 + x.length : Nat) : Int) = h ++ x := by
  unfold cut
  rw [Int.toNat_natCast, ← List.append_assoc, List.take_left' (by simp [hh])]
  rfl
theorem cut2 (h x y : List Int) (hh : h.length = 15) : cut (h ++ (x ++ y)) ((15 + x.length : Nat) : Int) (((x ++ y).length + 15 : Nat) : Int) = y := by
  unfold cut
  rw [Int.toNat_natCast, Int.toNat_natCast, List.take_of_length_le (by simp [hh]; omega), ← List.append_assoc, List.drop_left' (by simp [hh])]
theorem cut3 (h y : List Int) (n m : Nat) (hh : h.length = n) (hm : n + y.length ≤ m) : cut (h ++ y) ((n : Nat) : Int) (m : Int) = y := by
  unfold cut
  rw [Int.toNat_natCast, Int.toNat_natCast, List.take_of_length_le (by simp [hh]; omega), List.drop_left' hh]
theorem cut5 (h x y : List Int) (hh : h.length = 15) : cut (h ++ (x ++ y)) 15 ((15 + x.length : Nat) : Int) = x := by
  unfold cut
  rw [Int.toNat_natCast, ← List.append_assoc, List.take_left' (by simp [hh]), show (15 : Int).toNat = 15 from rfl, List.drop_left' hh]
theorem shl8 {x : Int} (hx : isB x) : ishl IntKind.i64 x ((8 : Int)).toNat = x * 256 := by
  unfold ishl
  rw [show ((2 : Int) ^ (min ((8 : Int)).toNat (IntKind.bits .i64))) = 256 by decide]
  exact i64_wrap (by unfold isB at hx; omega) (by unfold isB at hx; omega)
/-- bytes that begin as a packet's -/
theorem first_run (n : Nat) (k f t e0 e1 e2 e3 s0 s1 s2 s3 l0 l1 : Int) (tl : List Int) (hn : 20 + tl.length < n) (hb : tl.length ≤ 4611686018427387904)
    (he0 : isB e0) (he1 : isB e1) (he2 : isB e2) (he3 : isB e3) (hs0 : isB s0) (hs1 : isB s1) (hs2 : isB s2) (hs3 : isB s3) (hl0 : isB l0) (hl1 : isB l1) :
    (((tl.length : Int) < l0 + l1 * 256 + 4) → frame_first.f n (66 :: 87 :: k :: f :: t :: e0 :: e1 :: e2 :: e3 :: s0 :: s1 :: s2 :: s3 :: l0 :: l1 :: tl) = some (none3, 0, false, ())) ∧
    ∀ (x : List Int) (f0 f1 f2 f3 : Int) (r : List Int), tl = x ++ f0 :: f1 :: f2 :: f3 :: r → (x.length : Int) = l0 + l1 * 256 → isB f0 → isB f1 → isB f2 → isB f3 →
      frame_first.f n (66 :: 87 :: k :: f :: t :: e0 :: e1 :: e2 :: e3 :: s0 :: s1 :: s2 :: s3 :: l0 :: l1 :: tl) =
        some (if fold0 (66 :: 87 :: k :: f :: t :: e0 :: e1 :: e2 :: e3 :: s0 :: s1 :: s2 :: s3 :: l0 :: l1 :: x) = rd4 f0 f1 f2 f3 then
          ((k, f, t, rd4 e0 e1 e2 e3, rd4 s0 s1 s2 s3, x, ()), ((19 + x.length : Nat) : Int), right (k, f, t, rd4 e0 e1 e2 e3, rd4 s0 s1 s2 s3, x, ()), ())
        else (none3, 0, false, ())) := by
  have hl : (66 :: 87 :: k :: f :: t :: e0 :: e1 :: e2 :: e3 :: s0 :: s1 :: s2 :: s3 :: l0 :: l1 :: tl).length = tl.length + 15 := by simp
  by_cases h19 : tl.length < 4
  · constructor
    · intro _; exact first_short n _ (by rw [hl]; omega)
    · intro x f0 f1 f2 f3 r e; rw [e] at h19; simp at h19; omega
  have e1' : IntKind.i64.wrap l0 = l0 := i64_wrap (by unfold isB at hl0; omega) (by unfold isB at hl0; omega)
  have e2' : IntKind.i64.wrap l1 = l1 := i64_wrap (by unfold isB at hl1; omega) (by unfold isB at hl1; omega)
  have e3' : ishl IntKind.i64 l1 ((8 : Int)).toNat = l1 * 256 := shl8 hl1
  have e4' : IntKind.i64.wrap (15 + l0) = 15 + l0 := i64_wrap (by unfold isB at hl0; omega) (by unfold isB at hl0; omega)
  have e5' : IntKind.i64.wrap (15 + l0 + l1 * 256) = 15 + l0 + l1 * 256 := i64_wrap (by unfold isB at hl0 hl1; omega) (by unfold isB at hl0 hl1; omega)
  have e6' : IntKind.i64.wrap (15 + l0 + l1 * 256 + 4) = 15 + l0 + l1 * 256 + 4 := i64_wrap (by unfold isB at hl0 hl1; omega) (by unfold isB at hl0 hl1; omega)
  have h' : ¬ (((tl.length + 15 : Nat) : Int) < 19) := by omega
  constructor
  · intro hlt
    unfold frame_first.f
    rw [hl]
    simp -implicitDefEqProofs only [h', decide_false, cond_false]
    rw [idxK_at (e := 66) (by decide) rfl]
    simp -implicitDefEqProofs only [decide_true, Bool.not_true, Option.bind_some, cond_false]
    rw [idxK_at (e := 87) (by decide) rfl]
    simp -implicitDefEqProofs only [decide_true, Bool.not_true, Option.bind_some, cond_false]
    rw [idxK_at (e := l0) (by decide) (by simp), idxK_at (e := l1) (by decide) (by simp), geK_in (by decide), e1', e2', e3', e4', e5', e6']
    have : (((tl.length + 15 : Nat) : Int) < 15 + l0 + l1 * 256 + 4) := by omega
    simp -implicitDefEqProofs only [this, decide_true, cond_true, Option.bind_some]
    rfl
  · intro x f0 f1 f2 f3 r e hx hf0 hf1 hf2 hf3
    unfold frame_first.f
    rw [hl]
    simp -implicitDefEqProofs only [h', decide_false, cond_false]
    rw [idxK_at (e := 66) (by decide) rfl]
    simp -implicitDefEqProofs only [decide_true, Bool.not_true, Option.bind_some, cond_false]
    rw [idxK_at (e := 87) (by decide) rfl]
    simp -implicitDefEqProofs only [decide_true, Bool.not_true, Option.bind_some, cond_false]
    rw [idxK_at (e := l0) (by decide) (by simp), idxK_at (e := l1) (by decide) (by simp), geK_in (by decide), e1', e2', e3', e4', e5', e6']
    subst e
    have hx0 : (15 + l0 + l1 * 256 : Int) = ((15 + x.length : Nat) : Int) := by omega
    have hx1 : (15 + l0 + l1 * 256 + 4 : Int) = ((19 + x.length : Nat) : Int) := by omega
    rw [hx1, hx0]
    have hge : ¬ ((((x ++ f0 :: f1 :: f2 :: f3 :: r).length + 15 : Nat) : Int) < ((19 + x.length : Nat) : Int)) := by simp; omega
    simp -implicitDefEqProofs only [hge, decide_false, cond_false]
    have hlen : (x ++ f0 :: f1 :: f2 :: f3 :: r).length = x.length + 4 + r.length := by simp; omega
    have c1 : cut (66 :: 87 :: k :: f :: t :: e0 :: e1 :: e2 :: e3 :: s0 :: s1 :: s2 :: s3 :: l0 :: l1 :: (x ++ f0 :: f1 :: f2 :: f3 :: r)) 0 ((15 + x.length : Nat) : Int) = 66 :: 87 :: k :: f :: t :: e0 :: e1 :: e2 :: e3 :: s0 :: s1 :: s2 :: s3 :: l0 :: l1 :: x := cut1 [66, 87, k, f, t, e0, e1, e2, e3, s0, s1, s2, s3, l0, l1] x (f0 :: f1 :: f2 :: f3 :: r) rfl
    have c2 : cut (66 :: 87 :: k :: f :: t :: e0 :: e1 :: e2 :: e3 :: s0 :: s1 :: s2 :: s3 :: l0 :: l1 :: (x ++ f0 :: f1 :: f2 :: f3 :: r)) ((15 + x.length : Nat) : Int) (((x ++ f0 :: f1 :: f2 :: f3 :: r).length + 15 : Nat) : Int) = f0 :: f1 :: f2 :: f3 :: r := cut2 [66, 87, k, f, t, e0, e1, e2, e3, s0, s1, s2, s3, l0, l1] x (f0 :: f1 :: f2 :: f3 :: r) rfl
    have c3 : cut (66 :: 87 :: k :: f :: t :: e0 :: e1 :: e2 :: e3 :: s0 :: s1 :: s2 :: s3 :: l0 :: l1 :: (x ++ f0 :: f1 :: f2 :: f3 :: r)) 5 (((x ++ f0 :: f1 :: f2 :: f3 :: r).length + 15 : Nat) : Int) = e0 :: e1 :: e2 :: e3 :: s0 :: s1 :: s2 :: s3 :: l0 :: l1 :: (x ++ f0 :: f1 :: f2 :: f3 :: r) := cut3 [66, 87, k, f, t] (e0 :: e1 :: e2 :: e3 :: s0 :: s1 :: s2 :: s3 :: l0 :: l1 :: (x ++ f0 :: f1 :: f2 :: f3 :: r)) 5 _ rfl (by simp; omega)
    have c4 : cut (66 :: 87 :: k :: f :: t :: e0 :: e1 :: e2 :: e3 :: s0 :: s1 :: s2 :: s3 :: l0 :: l1 :: (x ++ f0 :: f1 :: f2 :: f3 :: r)) 9 (((x ++ f0 :: f1 :: f2 :: f3 :: r).length + 15 : Nat) : Int) = s0 :: s1 :: s2 :: s3 :: l0 :: l1 :: (x ++ f0 :: f1 :: f2 :: f3 :: r) := cut3 [66, 87, k, f, t, e0, e1, e2, e3] (s0 :: s1 :: s2 :: s3 :: l0 :: l1 :: (x ++ f0 :: f1 :: f2 :: f3 :: r)) 9 _ rfl (by simp; omega)
    have c5 : cut (66 :: 87 :: k :: f :: t :: e0 :: e1 :: e2 :: e3 :: s0 :: s1 :: s2 :: s3 :: l0 :: l1 :: (x ++ f0 :: f1 :: f2 :: f3 :: r)) 15 ((15 + x.length : Nat) : Int) = x := cut5 [66, 87, k, f, t, e0, e1, e2, e3, s0, s1, s2, s3, l0, l1] x (f0 :: f1 :: f2 :: f3 :: r) rfl
    rw [sliceK_in (by decide) (by omega) (by rw [hlen]; omega), c1, Fold_run n _ (by simp; omega) (by simp; omega)]
    simp -implicitDefEqProofs only [Option.bind_some]
    rw [sliceK_in (by omega) (by rw [hlen]; omega) (by omega), c2, read_run n (by omega) _ _ _ _ _ hf0 hf1 hf2 hf3]
    simp -implicitDefEqProofs only [Option.bind_some]
    by_cases hh : fold0 (66 :: 87 :: k :: f :: t :: e0 :: e1 :: e2 :: e3 :: s0 :: s1 :: s2 :: s3 :: l0 :: l1 :: x) = rd4 f0 f1 f2 f3
    · simp -implicitDefEqProofs only [hh, decide_true, Bool.not_true, cond_false, if_true]
      rw [idxK_at (e := k) (by decide) rfl, idxK_at (e := f) (by decide) rfl, idxK_at (e := t) (by decide) rfl, sliceK_in (by decide) (by rw [hlen]; omega) (by omega), c3, read_run n (by omega) _ _ _ _ _ he0 he1 he2 he3]
      simp -implicitDefEqProofs only [Option.bind_some]
      rw [sliceK_in (by decide) (by rw [hlen]; omega) (by omega), c4, read_run n (by omega) _ _ _ _ _ hs0 hs1 hs2 hs3]
      simp -implicitDefEqProofs only [Option.bind_some]
      rw [sliceK_in (by decide) (by omega) (by rw [hlen]; omega), c5, Right_run]
      rfl
    · simp -implicitDefEqProofs only [hh, decide_false, Bool.not_false, cond_true, if_false]
      rfl
end Go.Proofs.Ytmglcaonmbpciaa.S
