/- Frames: FrameReads, as a plain law. -/
import Derived.Test.YtmglcaonmbpciaaFrW
set_option linter.unusedVariables false
set_option linter.unusedSimpArgs false
namespace Go.Proofs.Ytmglcaonmbpciaa.S
open Go Go.Proofs Go.Proofs.Bw

theorem rd4_in {a b c d : Int} (ha : isB a) (hb : isB b) (hc : isB c) (hd : isB d) : 0 ≤ rd4 a b c d ∧ rd4 a b c d < 4294967296 := by
  unfold isB at ha hb hc hd
  unfold rd4; omega
/-- the code's and the document's first packet of bytes -/
theorem cut_same (n : Nat) (b : List Int) (hb : ∀ x ∈ b, isB x) (hl : b.length ≤ 100000) (hn : 200000 < n) :
    (frame_first.f n b = some (none3, 0, false, ()) ∧ r03_Cut.f n b = some (none3, [], 3, ())) ∨
    ∃ p r, Pwf p ∧ p.2.2.2.2.2.1.length < 65536 ∧ b = enc p ++ r ∧ frame_first.f n b = some (p, ((enc p).length : Int), right p, ()) ∧
      r03_Cut.f n b = some (if right p = true then (p, r, 0, ()) else (none3, [], 3, ())) := by
  by_cases h19 : b.length < 19
  · exact .inl ⟨first_short n b h19, rCut_short n b h19⟩
  obtain ⟨b0, b, rfl, hb0, hL0, hm0⟩ := cons_of (n := 18) (by omega) hb
  obtain ⟨b1, b, rfl, hb1, hL1, hm1⟩ := cons_of (n := 17) (by omega) hm0
  obtain ⟨k, b, rfl, hk, hL2, hm2⟩ := cons_of (n := 16) (by omega) hm1
  obtain ⟨f, b, rfl, hf, hL3, hm3⟩ := cons_of (n := 15) (by omega) hm2
  obtain ⟨t, b, rfl, ht, hL4, hm4⟩ := cons_of (n := 14) (by omega) hm3
  obtain ⟨e0, b, rfl, he0, hL5, hm5⟩ := cons_of (n := 13) (by omega) hm4
  obtain ⟨e1, b, rfl, he1, hL6, hm6⟩ := cons_of (n := 12) (by omega) hm5
  obtain ⟨e2, b, rfl, he2, hL7, hm7⟩ := cons_of (n := 11) (by omega) hm6
  obtain ⟨e3, b, rfl, he3, hL8, hm8⟩ := cons_of (n := 10) (by omega) hm7
  obtain ⟨s0, b, rfl, hs0, hL9, hm9⟩ := cons_of (n := 9) (by omega) hm8
  obtain ⟨s1, b, rfl, hs1, hL10, hm10⟩ := cons_of (n := 8) (by omega) hm9
  obtain ⟨s2, b, rfl, hs2, hL11, hm11⟩ := cons_of (n := 7) (by omega) hm10
  obtain ⟨s3, b, rfl, hs3, hL12, hm12⟩ := cons_of (n := 6) (by omega) hm11
  obtain ⟨l0, b, rfl, hl0, hL13, hm13⟩ := cons_of (n := 5) (by omega) hm12
  obtain ⟨l1, b, rfl, hl1, hL14, hm14⟩ := cons_of (n := 4) (by omega) hm13
  clear hb
  have hbl : b.length ≤ 100000 := by simp at hl; omega
  obtain ⟨c1, c2⟩ := rCut_run n b0 b1 k f t e0 e1 e2 e3 s0 s1 s2 s3 l0 l1 b hn hbl hL14 hk hf ht he0 he1 he2 he3 hs0 hs1 hs2 hs3 hl0 hl1 hm14
  obtain ⟨g1, g2⟩ := first_run n k f t e0 e1 e2 e3 s0 s1 s2 s3 l0 l1 b (by omega) (by omega) he0 he1 he2 he3 hs0 hs1 hs2 hs3 hl0 hl1
  by_cases hlt : (b.length : Int) < l0 + l1 * 256 + 4
  · refine .inl ⟨?_, c1 hlt⟩
    by_cases h66 : b0 = 66 ∧ b1 = 87
    · obtain ⟨rfl, rfl⟩ := h66; exact g1 hlt
    · exact first_head n b0 b1 _ h66
  have hL0 : 0 ≤ l0 + l1 * 256 ∧ l0 + l1 * 256 < 65536 := by unfold isB at hl0 hl1; omega
  obtain ⟨L, hL⟩ := Int.eq_ofNat_of_zero_le hL0.1
  have hsp := (List.take_append_drop L b).symm
  have hdl : 4 ≤ (b.drop L).length := by rw [List.length_drop]; omega
  have hxl : (b.take L).length = L := by rw [List.length_take]; omega
  have hx : ∀ x ∈ b.take L, isB x := fun x hx => hm14 x (List.mem_of_mem_take hx)
  have hd : ∀ x ∈ b.drop L, isB x := fun x hx => hm14 x (List.mem_of_mem_drop hx)
  generalize b.take L = x at hsp hxl hx
  generalize b.drop L = d at hsp hdl hd
  obtain ⟨f0, d, rfl, hf0, hD0, hd0⟩ := cons_of (n := 3) (by omega) hd
  obtain ⟨f1, d, rfl, hf1, hD1, hd1⟩ := cons_of (n := 2) (by omega) hd0
  obtain ⟨f2, d, rfl, hf2, hD2, hd2⟩ := cons_of (n := 1) (by omega) hd1
  obtain ⟨f3, d, rfl, hf3, hD3, hd3⟩ := cons_of (n := 0) (by omega) hd2
  have c := c2 x [f0, f1, f2, f3] d (by rw [hsp]; rfl) (by rw [hxl]; omega) rfl
  have hhdr : hdr (k, f, t, rd4 e0 e1 e2 e3, rd4 s0 s1 s2 s3, x, ()) = 66 :: 87 :: k :: f :: t :: e0 :: e1 :: e2 :: e3 :: s0 :: s1 :: s2 :: s3 :: l0 :: l1 :: x := by
    unfold hdr
    simp only []
    rw [le4_rd4 he0 he1 he2 he3, le4_rd4 hs0 hs1 hs2 hs3, hxl]
    have a1 : (L : Int) % 256 = l0 := by unfold isB at hl0; omega
    have a2 : (L : Int) / 256 % 256 = l1 := by unfold isB at hl0 hl1; omega
    rw [a1, a2]
    rfl
  have wp : Pwf (k, f, t, rd4 e0 e1 e2 e3, rd4 s0 s1 s2 s3, x, ()) := ⟨hk, hf, ht, rd4_in he0 he1 he2 he3, rd4_in hs0 hs1 hs2 hs3, hx⟩
  by_cases h66 : b0 = 66 ∧ b1 = 87
  case neg =>
    refine .inl ⟨first_head n b0 b1 _ h66, ?_⟩
    rw [c, if_neg]
    rintro ⟨_, h⟩
    unfold enc at h
    rw [hhdr] at h
    injection h with h1 h
    injection h with h2 _
    exact h66 ⟨h1.symm, h2.symm⟩
  obtain ⟨rfl, rfl⟩ := h66
  have g := g2 x f0 f1 f2 f3 d hsp (by rw [hxl]; omega) hf0 hf1 hf2 hf3
  have hiff : enc (k, f, t, rd4 e0 e1 e2 e3, rd4 s0 s1 s2 s3, x, ()) = 66 :: 87 :: k :: f :: t :: e0 :: e1 :: e2 :: e3 :: s0 :: s1 :: s2 :: s3 :: l0 :: l1 :: (x ++ [f0, f1, f2, f3]) ↔ fold0 (66 :: 87 :: k :: f :: t :: e0 :: e1 :: e2 :: e3 :: s0 :: s1 :: s2 :: s3 :: l0 :: l1 :: x) = rd4 f0 f1 f2 f3 := by
    unfold enc
    rw [hhdr, show (66 :: 87 :: k :: f :: t :: e0 :: e1 :: e2 :: e3 :: s0 :: s1 :: s2 :: s3 :: l0 :: l1 :: (x ++ [f0, f1, f2, f3])) = (66 :: 87 :: k :: f :: t :: e0 :: e1 :: e2 :: e3 :: s0 :: s1 :: s2 :: s3 :: l0 :: l1 :: x) ++ [f0, f1, f2, f3] from rfl, List.append_cancel_left_eq]
    exact le4_eq (fold0_in _) hf0 hf1 hf2 hf3
  by_cases hh : fold0 (66 :: 87 :: k :: f :: t :: e0 :: e1 :: e2 :: e3 :: s0 :: s1 :: s2 :: s3 :: l0 :: l1 :: x) = rd4 f0 f1 f2 f3
  · rw [if_pos hh] at g
    have he := hiff.2 hh
    refine .inr ⟨(k, f, t, rd4 e0 e1 e2 e3, rd4 s0 s1 s2 s3, x, ()), d, wp, by rw [hxl]; omega, ?_, ?_, ?_⟩
    · rw [he, hsp]; simp
    · rw [g, enc_len]
    · rw [c]
      by_cases hr : right (k, f, t, rd4 e0 e1 e2 e3, rd4 s0 s1 s2 s3, x, ()) = true
      · rw [if_pos ⟨hr, he⟩, if_pos hr]
      · rw [if_neg (fun h => hr h.1), if_neg hr]
  · rw [if_neg hh] at g
    refine .inl ⟨g, ?_⟩
    rw [c, if_neg]
    rintro ⟨_, h⟩
    exact hh (hiff.1 h)
theorem Cut_eq (n : Nat) (b : List Int) (hb : ∀ x ∈ b, isB x) (hl : b.length ≤ 100000) (hn : 200000 < n) : ∃ p r e, frame_Cut.f n b = some (p, r, e, ()) ∧ r03_Cut.f n b = some (p, r, e, ()) ∧
    frame_Decode.f n b = some (if e = 0 ∧ r = [] then (p, 0, ()) else (none3, 3, ())) := by
  rcases cut_same n b hb hl hn with ⟨h1, h2⟩ | ⟨p, r, wp, lp, e, h1, h2⟩
  · refine ⟨none3, [], 3, ?_, h2, ?_⟩
    · exact Cut_some n b [] none3 0 false h1 (Nat.zero_le _) (by omega)
    · exact Decode_some n b _ _ _ h1
  · have hle : (enc p).length ≤ b.length := by rw [e]; simp
    have c := Cut_some n b [] p _ _ h1 hle (by omega)
    have d := Decode_some n b p _ _ h1
    cases hr : right p with
    | false =>
      rw [hr] at h2 c d
      exact ⟨none3, [], 3, c, h2, d⟩
    | true =>
      rw [hr] at h2 c d
      refine ⟨p, r, 0, ?_, h2, ?_⟩
      · rw [c, if_pos rfl]
        subst e
        rw [List.drop_left]
      · rw [d]
        have hl2 := congrArg List.length e
        rw [List.length_append] at hl2
        by_cases hr0 : r = []
        · subst hr0
          rw [if_pos ⟨rfl, by simp at hl2; omega⟩, if_pos ⟨rfl, rfl⟩]
        · have : r.length ≠ 0 := fun h => hr0 (List.eq_nil_of_length_eq_zero h)
          rw [if_neg (fun h => by have := h.2; omega), if_neg (fun h => hr0 h.2)]
theorem rDecode_eq (n : Nat) (b : List Int) (p : DPacket) (r : List Int) (e : Int) (h : r03_Cut.f n b = some (p, r, e, ())) : r03_Decode.f n b = some (if e = 0 ∧ r = [] then (p, 0, ()) else (none3, 3, ())) := by
  unfold r03_Decode.f
  rw [h]
  simp -implicitDefEqProofs only [Option.bind_some]
  by_cases h1 : e = 0
  · simp -implicitDefEqProofs only [h1, decide_true, Bool.not_true, cond_false, true_and]
    cases r with
    | nil => rfl
    | cons a r =>
      have : ¬ ((((a :: r).length : Nat) : Int) = 0) := by simp; omega
      simp -implicitDefEqProofs only [this, decide_false, Bool.not_false, Option.bind_some, cond_true]
      rfl
  · simp -implicitDefEqProofs only [h1, decide_false, Bool.not_false, cond_true, Option.bind_some, false_and, if_false]
    rfl
theorem FrameReads_pure (b : List Int) (hb : Ty.wf (.slB .U false (.int .u8)) b) : law03_FrameReads.f 300000 b = some true := by
  have hb := bytes_wf hb
  unfold law03_FrameReads.f
  have hb' : ∀ x ∈ b.take 40000, isB x := fun x hx => hb x (List.mem_of_mem_take hx)
  have hl' : (b.take 40000).length ≤ 40000 := by rw [List.length_take]; omega
  rw [few_run]
  simp -implicitDefEqProofs only [Option.bind_some]
  generalize b.take 40000 = t at hb' hl'
  obtain ⟨p, r, e, h1, h2, h3⟩ := Cut_eq 300000 t hb' (by omega) (by decide)
  rw [appK_in (by simp; omega), List.nil_append, h3, rDecode_eq _ _ _ _ _ h2, h1, h2, live_run _ (by decide)]
  simp -implicitDefEqProofs only [Option.bind_some, cond_true, pk_self, decide_true]
end Go.Proofs.Ytmglcaonmbpciaa.S
