/- Frames, the plain law's first part: what the code's functions answer. -/
import Derived.Test.YtmglcaonmbpciaaSFn
import Derived.Test.YtmglcaonmbpciaaBw4
set_option linter.unusedVariables false
set_option linter.unusedSimpArgs false
namespace Go.Proofs.Ytmglcaonmbpciaa.S
open Go Go.Proofs Go.Proofs.Bw

def le4 (x : Int) : List Int := [x % 256, x / 256 % 256, x / 65536 % 256, x / 16777216 % 256]
def fold (a : Int) (l : List Int) : Int := l.foldl (fun x e => IntKind.u32.wrap (ixor .u32 x (IntKind.u32.wrap e) * 16777619)) a
abbrev fold0 (l : List Int) : Int := fold 2166136261 l
theorem fold_in (l : List Int) : ∀ a, 0 ≤ a ∧ a < 4294967296 → 0 ≤ fold a l ∧ fold a l < 4294967296 := by
  induction l with
  | nil => exact fun a h => h
  | cons e l ih =>
    intro a h
    show 0 ≤ fold _ l ∧ fold _ l < _
    refine ih _ ?_
    show 0 ≤ IntKind.wrap .u32 _ ∧ IntKind.wrap .u32 _ < _
    rw [u32_wrap]
    omega
theorem fold0_in (l : List Int) : 0 ≤ fold0 l ∧ fold0 l < 4294967296 := fold_in l _ (by decide)

theorem byte_run (n : Nat) (l m : List Int) (h : l.length + m.length ≤ 140737488355328) : frame_buffer_byte.f n (l, ()) m = some ((l ++ m, ()), ()) := by
  unfold frame_buffer_byte.f
  exact appK_in (by simpa using h)
theorem num_step (n k : Nat) (l : List Int) (x i : Int) (h0 : 0 ≤ i) (h4 : i < 4) (hl : l.length + 1 ≤ 140737488355328) :
    frame_buffer_number.l1 n (k + 1) (l, ()) x i = frame_buffer_number.l1 n k (l ++ [x % 256], ()) (x / 256) (i + 1) := by
  rw [frame_buffer_number.l1, byte_run n _ _ (by simpa using hl)]
  simp only [h4, decide_true, cond_true, Option.bind_some]
  rw [geK_in (by decide), frame_buffer_number.j2, u8_wrap, shr_u32 (by decide), i64_wrap (by omega) (by omega)]
  rfl
theorem num_end (n k : Nat) (x : (List Int) × Unit) (y i : Int) (h4 : ¬ i < 4) : frame_buffer_number.l1 n (k + 1) x y i = some (x, ()) := by
  rw [frame_buffer_number.l1]
  simp [h4]
theorem num_run (n : Nat) (hn : 5 ≤ n) (l : List Int) (x : Int) (hx : 0 ≤ x) (hl : l.length + 4 ≤ 140737488355328) : frame_buffer_number.f n (l, ()) x = some ((l ++ le4 x, ()), ()) := by
  unfold frame_buffer_number.f
  obtain ⟨k, rfl⟩ : ∃ k, n = k + 4 + 1 := ⟨n - 5, by omega⟩
  rw [num_step _ _ _ _ _ (by omega) (by omega) (by simpa using (by omega : l.length + 1 ≤ 140737488355328)), num_step _ _ _ _ _ (by omega) (by omega) (by simp; omega), num_step _ _ _ _ _ (by omega) (by omega) (by simp; omega),
    num_step _ _ _ _ _ (by omega) (by omega) (by simp; omega), num_end _ _ _ _ _ (by omega)]
  simp only [le4, List.append_assoc, List.cons_append, List.nil_append]
  rw [Int.ediv_ediv_of_nonneg (by omega), Int.ediv_ediv_of_nonneg (by omega)]
  rfl
theorem fold_run (n : Nat) (b : List Int) (hb : b.length < 9223372036854775807) : ∀ (k i : Nat) (a : Int), i ≤ b.length → b.length - i < k →
    bits_Fold.l2 n k b a (b.length : Int) (i : Int) = some (fold a (b.drop i)) := by
  intro k
  induction k with
  | zero => intro i a _ h; omega
  | succ k ih =>
    intro i a hi hk
    rw [bits_Fold.l2]
    by_cases h : i < b.length
    · have h' : ((i : Int) < (b.length : Int)) := by omega
      simp only [h', decide_true, cond_true]
      rw [idxK_at (e := b[i]) (by omega) (by simp [h]), bits_Fold.j3, i64_wrap (by omega) (by omega)]
      rw [show ((i : Int) + 1) = ((i + 1 : Nat) : Int) by omega, ih (i + 1) _ (by omega) (by omega), List.drop_eq_getElem_cons h]
      rfl
    · have h' : ¬ ((i : Int) < (b.length : Int)) := by omega
      simp only [h', decide_false, cond_false, bits_Fold.j1]
      rw [List.drop_eq_nil_of_le (by omega)]
      rfl
theorem Fold_run (n : Nat) (b : List Int) (hb : b.length < 9223372036854775807) (hn : b.length < n) : bits_Fold.f n b = some (fold0 b) := by
  unfold bits_Fold.f
  have := fold_run n b hb n 0 2166136261 (by omega) (by omega)
  simpa using this
def rd4 (a b c d : Int) : Int := a + b * 256 + c * 65536 + d * 16777216
theorem read_step (n k : Nat) (b : List Int) (acc e : Int) (i : Nat) (hi : i < 4) (he : b[i]? = some e) (h0 : 0 ≤ acc) (h1 : acc < 2 ^ (8 * i)) (e0 : 0 ≤ e) (e1 : e < 256) :
    frame_read.l2 n (k + 1) b acc (i : Int) = frame_read.l2 n k b (acc + e * 2 ^ (8 * i)) ((i + 1 : Nat) : Int) := by
  rw [frame_read.l2]
  have h' : ((i : Int) < 4) := by omega
  simp only [h', decide_true, cond_true]
  rw [idxK_at (e := e) (by omega) (by simpa using he), i64_wrap (by omega) (by omega), geK_in (by omega), frame_read.j3, i64_wrap (by omega) (by omega), u32_wrap, show e % 4294967296 = e by omega,
    show (8 * (i : Int)).toNat = 8 * i by omega, or_u32 h0 h1 e0 ?_ (by omega)]
  · rfl
  · have : i = 0 ∨ i = 1 ∨ i = 2 ∨ i = 3 := by omega
    rcases this with rfl | rfl | rfl | rfl <;> simp at h1 ⊢ <;> omega
def isB (x : Int) : Prop := 0 ≤ x ∧ x < 256
theorem read_run (n : Nat) (hn : 5 ≤ n) (a b c d : Int) (l : List Int) (ha : isB a) (hb : isB b) (hc : isB c) (hd : isB d) : frame_read.f n (a :: b :: c :: d :: l) = some (rd4 a b c d) := by
  unfold frame_read.f
  obtain ⟨k, rfl⟩ : ∃ k, n = k + 4 + 1 := ⟨n - 5, by omega⟩
  unfold isB at ha hb hc hd
  have s0 := read_step (k + 4 + 1) (k + 4) (a :: b :: c :: d :: l) 0 a 0 (by omega) rfl (by omega) (by simp) ha.1 ha.2
  have s1 := read_step (k + 4 + 1) (k + 3) (a :: b :: c :: d :: l) a b 1 (by omega) rfl (by omega) (by simp; omega) hb.1 hb.2
  have s2 := read_step (k + 4 + 1) (k + 2) (a :: b :: c :: d :: l) (a + b * 256) c 2 (by omega) rfl (by omega) (by simp; omega) hc.1 hc.2
  have s3 := read_step (k + 4 + 1) (k + 1) (a :: b :: c :: d :: l) (a + b * 256 + c * 65536) d 3 (by omega) rfl (by omega) (by simp; omega) hd.1 hd.2
  simp at s0 s1 s2 s3
  rw [s0, s1, s2, s3]
  rw [frame_read.l2]
  simp [frame_read.j1, rd4]
theorem le4_rd4 {a b c d : Int} (ha : isB a) (hb : isB b) (hc : isB c) (hd : isB d) : le4 (rd4 a b c d) = [a, b, c, d] := by
  unfold isB at ha hb hc hd
  simp only [le4, rd4, List.cons.injEq, and_true]
  refine ⟨?_, ?_, ?_, ?_⟩ <;> omega
theorem rd4_le4 {x : Int} (h0 : 0 ≤ x) (h1 : x < 4294967296) : rd4 (x % 256) (x / 256 % 256) (x / 65536 % 256) (x / 16777216 % 256) = x := by
  simp only [rd4]; omega
end Go.Proofs.Ytmglcaonmbpciaa.S
