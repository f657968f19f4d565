/- Frames, the plain law's third part: Decode, Cut; the laws. -/
import Derived.Test.YtmglcaonmbpciaaFrB
set_option linter.unusedVariables false
set_option linter.unusedSimpArgs false
namespace Go.Proofs.Ytmglcaonmbpciaa.S
open Go Go.Proofs Go.Proofs.Bw

theorem isB_le4 {x : Int} (h : 0 ≤ x) : isB (x % 256) ∧ isB (x / 256 % 256) ∧ isB (x / 65536 % 256) ∧ isB (x / 16777216 % 256) := by
  unfold isB; omega
theorem first_enc (n : Nat) (p : DPacket) (r : List Int) (w : Pwf p) (hp : p.2.2.2.2.2.1.length < 65536) (hr : r.length ≤ 4294967296) (hn : 70000 + r.length < n) :
    frame_first.f n (enc p ++ r) = some (p, ((enc p).length : Int), right p, ()) := by
  obtain ⟨k, f, t, e, s, x, u⟩ := p
  obtain ⟨hk, hf, ht, he, hs, hx⟩ := w
  simp -implicitDefEqProofs only [] at hk hf ht he hs hx hp
  obtain ⟨b0, b1, b2, b3⟩ := isB_le4 he.1
  obtain ⟨c0, c1, c2, c3⟩ := isB_le4 hs.1
  obtain ⟨d0, d1, d2, d3⟩ := isB_le4 (fold0_in (hdr (k, f, t, e, s, x, u))).1
  have hl0 : isB ((x.length : Int) % 256) := by unfold isB; omega
  have hl1 : isB ((x.length : Int) / 256 % 256) := by unfold isB; omega
  have := (first_run n k f t _ _ _ _ _ _ _ _ _ _ (x ++ (le4 (fold0 (hdr (k, f, t, e, s, x, u))) ++ r)) (by simp [le4]; omega) (by simp [le4]; omega) b0 b1 b2 b3 c0 c1 c2 c3 hl0 hl1).2 x _ _ _ _ r rfl (by omega) d0 d1 d2 d3
  rw [rd4_le4 he.1 he.2, rd4_le4 hs.1 hs.2, rd4_le4 (fold0_in _).1 (fold0_in _).2] at this
  have e1 : enc (k, f, t, e, s, x, u) ++ r = 66 :: 87 :: k :: f :: t :: e % 256 :: e / 256 % 256 :: e / 65536 % 256 :: e / 16777216 % 256 :: s % 256 :: s / 256 % 256 :: s / 65536 % 256 :: s / 16777216 % 256 :: (x.length : Int) % 256 :: (x.length : Int) / 256 % 256 :: (x ++ (le4 (fold0 (hdr (k, f, t, e, s, x, u))) ++ r)) := by
    simp [enc, hdr, le4]
  have e2 : (66 :: 87 :: k :: f :: t :: e % 256 :: e / 256 % 256 :: e / 65536 % 256 :: e / 16777216 % 256 :: s % 256 :: s / 256 % 256 :: s / 65536 % 256 :: s / 16777216 % 256 :: (x.length : Int) % 256 :: (x.length : Int) / 256 % 256 :: x) = hdr (k, f, t, e, s, x, u) := by
    simp [hdr, le4]
  rw [e1, this, e2, if_pos rfl, enc_len]

theorem cons_of {l : List Int} {n : Nat} (h : n + 1 ≤ l.length) (hb : ∀ x ∈ l, isB x) : ∃ a m, l = a :: m ∧ isB a ∧ n ≤ m.length ∧ ∀ x ∈ m, isB x := by
  cases l with
  | nil => simp at h
  | cons a m => exact ⟨a, m, rfl, hb a (by simp), by simpa using h, fun x hx => hb x (by simp [hx])⟩
theorem first_any (n : Nat) (b : List Int) (hb : ∀ x ∈ b, isB x) (hl : b.length ≤ 4294967296) (hn : 70000 + b.length < n) :
    frame_first.f n b = some (none3, 0, false, ()) ∨
    ∃ p r, Pwf p ∧ p.2.2.2.2.2.1.length < 65536 ∧ b = enc p ++ r ∧ frame_first.f n b = some (p, ((enc p).length : Int), right p, ()) := by
  by_cases h19 : b.length < 19
  · exact .inl (first_short n b h19)
  obtain ⟨b0, b, rfl, hb0, hL0, hm0⟩ := cons_of (n := 18) (by omega) hb
  obtain ⟨b1, b, rfl, hb1, hL1, hm1⟩ := cons_of (n := 17) (by omega) hm0
  by_cases h66 : b0 = 66 ∧ b1 = 87
  case neg => exact .inl (first_head n b0 b1 b h66)
  obtain ⟨rfl, rfl⟩ := h66
  obtain ⟨k, b, rfl, hk, hL2, hm2⟩ := cons_of (n := 16) (by omega) hm1
  obtain ⟨f, b, rfl, hf, hL3, hm3⟩ := cons_of (n := 15) (by omega) hm2
  obtain ⟨t, b, rfl, ht, hL4, hm4⟩ := cons_of (n := 14) (by omega) hm3
  obtain ⟨e0, b, rfl, he0, hL5, hm5⟩ := cons_of (n := 13) (by omega) hm4
  obtain ⟨e1, b, rfl, he1, hL6, hm6⟩ := cons_of (n := 12) (by omega) hm5
  obtain ⟨e2, b, rfl, he2, hL7, hm7⟩ := cons_of (n := 11) (by omega) hm6
  obtain ⟨e3, b, rfl, he3, hL8, hm8⟩ := cons_of (n := 10) (by omega) hm7
  obtain ⟨s0, b, rfl, hs0, hL9, hm9⟩ := cons_of (n := 9) (by omega) hm8
  obtain ⟨s1, b, rfl, hs1, hL10, hm10⟩ := cons_of (n := 8) (by omega) hm9
  obtain ⟨s2, b, rfl, hs2, hL11, hm11⟩ := cons_of (n := 7) (by omega) hm10
  obtain ⟨s3, b, rfl, hs3, hL12, hm12⟩ := cons_of (n := 6) (by omega) hm11
  obtain ⟨l0, b, rfl, hl0, hL13, hm13⟩ := cons_of (n := 5) (by omega) hm12
  obtain ⟨l1, b, rfl, hl1, hL14, hm14⟩ := cons_of (n := 4) (by omega) hm13
  clear hb h19
  have hb := hm14
  have h19 := hL14
  simp only [List.length_cons] at hl hn
  obtain ⟨g1, g2⟩ := first_run n k f t e0 e1 e2 e3 s0 s1 s2 s3 l0 l1 b (by omega) (by omega) he0 he1 he2 he3 hs0 hs1 hs2 hs3 hl0 hl1
  by_cases hlt : (b.length : Int) < l0 + l1 * 256 + 4
  · exact .inl (g1 hlt)
  have hL0 : 0 ≤ l0 + l1 * 256 ∧ l0 + l1 * 256 < 65536 := by unfold isB at hl0 hl1; omega
  obtain ⟨L, hL⟩ := Int.eq_ofNat_of_zero_le hL0.1
  have hsp := (List.take_append_drop L b).symm
  have hdl : 4 ≤ (b.drop L).length := by rw [List.length_drop]; omega
  have hxl : (b.take L).length = L := by rw [List.length_take]; omega
  have hx : ∀ x ∈ b.take L, isB x := fun x hx => hb x (List.mem_of_mem_take hx)
  have hd : ∀ x ∈ b.drop L, isB x := fun x hx => hb x (List.mem_of_mem_drop hx)
  generalize b.take L = x at hsp hxl hx
  generalize b.drop L = d at hsp hdl hd
  obtain ⟨f0, d, rfl, hf0, hdl, hd⟩ := cons_of (n := 3) (by omega) hd
  obtain ⟨f1, d, rfl, hf1, hdl, hd⟩ := cons_of (n := 2) (by omega) hd
  obtain ⟨f2, d, rfl, hf2, hdl, hd⟩ := cons_of (n := 1) (by omega) hd
  obtain ⟨f3, d, rfl, hf3, hdl, hd⟩ := cons_of (n := 0) (by omega) hd
  have g := g2 x f0 f1 f2 f3 d hsp (by rw [hxl]; omega) hf0 hf1 hf2 hf3
  by_cases hh : fold0 (66 :: 87 :: k :: f :: t :: e0 :: e1 :: e2 :: e3 :: s0 :: s1 :: s2 :: s3 :: l0 :: l1 :: x) = rd4 f0 f1 f2 f3
  · rw [if_pos hh] at g
    have hu : ∀ {a b c d : Int}, isB a → isB b → isB c → isB d → 0 ≤ rd4 a b c d ∧ rd4 a b c d < 4294967296 := by
      intro a b c d ha hb hc hd
      unfold isB at ha hb hc hd
      unfold rd4; omega
    refine .inr ⟨(k, f, t, rd4 e0 e1 e2 e3, rd4 s0 s1 s2 s3, x, ()), d, ⟨hk, hf, ht, hu he0 he1 he2 he3, hu hs0 hs1 hs2 hs3, hx⟩, by rw [hxl]; omega, ?_, ?_⟩
    · have e1 : hdr (k, f, t, rd4 e0 e1 e2 e3, rd4 s0 s1 s2 s3, x, ()) = 66 :: 87 :: k :: f :: t :: e0 :: e1 :: e2 :: e3 :: s0 :: s1 :: s2 :: s3 :: l0 :: l1 :: x := by
        unfold hdr
        simp only []
        rw [le4_rd4 he0 he1 he2 he3, le4_rd4 hs0 hs1 hs2 hs3, hxl]
        have a1 : (L : Int) % 256 = l0 := by unfold isB at hl0; omega
        have a2 : (L : Int) / 256 % 256 = l1 := by unfold isB at hl0 hl1; omega
        rw [a1, a2]
        rfl
      unfold enc
      rw [e1, hh, le4_rd4 hf0 hf1 hf2 hf3, hsp]
      simp
    · rw [g, enc_len]
  · rw [if_neg hh] at g
    exact .inl g

theorem enc_pre {p q : DPacket} {r s : List Int} (hp : Pwf p) (hq : Pwf q) (lp : p.2.2.2.2.2.1.length < 65536) (lq : q.2.2.2.2.2.1.length < 65536) (hr : r.length ≤ 4294967296) (hs : s.length ≤ 4294967296) (h : enc p ++ r = enc q ++ s) : p = q ∧ r = s := by
  have h1 := first_enc (70001 + r.length + s.length) p r hp lp hr (by omega)
  have h2 := first_enc (70001 + r.length + s.length) q s hq lq hs (by omega)
  rw [h, h2] at h1
  injection h1 with h1
  have : q = p := congrArg (·.1) h1
  subst this
  exact ⟨rfl, List.append_cancel_left h⟩
/-- bytes that are cut off -/
theorem first_part (n : Nat) (p : DPacket) (b t : List Int) (w : Pwf p) (lp : p.2.2.2.2.2.1.length < 65536) (h : b ++ t = enc p) (ht : t ≠ []) (hb : ∀ x ∈ b, isB x) (hn : 200000 < n) : frame_first.f n b = some (none3, 0, false, ()) := by
  have hl := congrArg List.length h
  rw [List.length_append, enc_len] at hl
  rcases first_any n b hb (by omega) (by omega) with h1 | ⟨q, r, wq, lq, e, _⟩
  · exact h1
  · rw [e, List.append_assoc] at h
    have hl2 := congrArg List.length h
    rw [List.length_append, enc_len, enc_len, List.length_append] at hl2
    have := (enc_pre wq w lq lp (r := r ++ t) (s := []) (by rw [List.length_append]; omega) (by simp) (by rw [List.append_nil]; exact h)).2
    exact (ht (List.append_eq_nil_iff.1 this).2).elim

theorem enc_bytes {p : DPacket} (w : Pwf p) : ∀ x ∈ enc p, isB x := by
  obtain ⟨b0, b1, b2, b3⟩ := isB_le4 w.e.1
  obtain ⟨c0, c1, c2, c3⟩ := isB_le4 w.s.1
  obtain ⟨d0, d1, d2, d3⟩ := isB_le4 (fold0_in (hdr p)).1
  intro x hx
  simp only [enc, hdr, le4, List.mem_append, List.mem_cons, List.not_mem_nil, or_false] at hx
  have hk := w.k; have hf := w.f; have ht := w.t; have hb := w.b
  unfold isB at *
  rcases hx with (rfl | rfl | rfl | rfl | rfl | (rfl | rfl | rfl | rfl) | (rfl | rfl | rfl | rfl) | rfl | rfl | hx) | rfl | rfl | rfl | rfl <;> first | assumption | omega | exact hb x hx

theorem Decode_some (n : Nat) (b : List Int) (p : DPacket) (m : Int) (ok : Bool) (h : frame_first.f n b = some (p, m, ok, ())) :
    frame_Decode.f n b = some (if ok = true ∧ m = (b.length : Int) then (p, 0, ()) else (none3, 3, ())) := by
  unfold frame_Decode.f
  rw [h]
  cases ok
  · rfl
  · by_cases e : m = (b.length : Int)
    · subst e; simp
    · simp [e, none3]
theorem Clone_run (n : Nat) (b : List Int) (h : b.length ≤ 4294967296) : slices_Clone.f n b = some b := by
  unfold slices_Clone.f
  rw [appK_in (by simp; omega)]
  cases b with
  | nil => simp [both]
  | cons a b => simp
theorem Cut_some (n : Nat) (b r : List Int) (p : DPacket) (m : Nat) (ok : Bool) (h : frame_first.f n b = some (p, (m : Int), ok, ())) (hr : m ≤ b.length) (hb : b.length ≤ 4294967296) :
    frame_Cut.f n b = some (if ok = true then (p, b.drop m, 0, ()) else (none3, [], 3, ())) := by
  unfold frame_Cut.f
  rw [h]
  cases ok
  · rfl
  · simp -implicitDefEqProofs only [Option.bind_some, Bool.not_true, cond_false, if_true]
    rw [sliceK_in (by omega) (by omega) (by omega)]
    have e : cut b (m : Int) (b.length : Int) = b.drop m := by
      unfold cut
      rw [Int.toNat_natCast, Int.toNat_natCast, List.take_of_length_le (Nat.le_refl _)]
    rw [e, Clone_run n _ (by rw [List.length_drop]; omega)]
    rfl
theorem few_run (n : Nat) (b : List Int) : law03_few.f n b = some (b.take 40000) := by
  unfold law03_few.f
  by_cases h : (40000 : Int) < (b.length : Int)
  · simp -implicitDefEqProofs only [h, decide_true, cond_true]
    rw [sliceK_in (by decide) (by decide) (by omega)]
    rfl
  · simp -implicitDefEqProofs only [h, decide_false, cond_false]
    rw [List.take_of_length_le (by omega)]
theorem Decode_enc (n : Nat) (hn : 100000 < n) (p : DPacket) (w : Pwf p) (hr : right p = true) : frame_Decode.f n (enc p) = some (p, 0, ()) := by
  have hl := right_len hr
  have h := first_enc n p [] w (by omega) (by simp) (by simp; omega)
  rw [List.append_nil, hr] at h
  rw [Decode_some n _ _ _ _ h, if_pos ⟨rfl, rfl⟩]
def lp : DPacket := (1, 1, 0, 0, 1, [], ())
theorem lp_wf : Pwf lp := ⟨by unfold isB; decide, by unfold isB; decide, by unfold isB; decide, by decide, by decide, fun x hx => by cases hx⟩
theorem live_run (n : Nat) (hn : 100000 < n) : law03_live.f n = some true := by
  unfold law03_live.f
  have hr : right lp = true := by decide
  have e := Encode_run n (by omega) lp lp_wf
  rw [if_pos hr] at e
  rw [show ((1, 1, 0, 0, 1, [], ()) : DPacket) = lp from rfl, e]
  simp -implicitDefEqProofs only [Option.bind_some]
  rw [Decode_enc n hn lp lp_wf hr, Right_run, hr, enc_len]
  rfl
end Go.Proofs.Ytmglcaonmbpciaa.S
