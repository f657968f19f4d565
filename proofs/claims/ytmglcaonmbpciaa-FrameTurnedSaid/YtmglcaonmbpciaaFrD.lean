/- Frames: FrameBack and FrameEnds, as plain laws. -/
import Derived.Test.YtmglcaonmbpciaaFrC
set_option linter.unusedVariables false
set_option linter.unusedSimpArgs false
namespace Go.Proofs.Ytmglcaonmbpciaa.S
open Go Go.Proofs Go.Proofs.Bw

theorem pk_self (p : DPacket) : (eqI p.1 p.1 && (eqI p.2.1 p.2.1 && (eqI p.2.2.1 p.2.2.1 && (eqI p.2.2.2.1 p.2.2.2.1 && (eqI p.2.2.2.2.1 p.2.2.2.2.1 && (eqS p.2.2.2.2.2.1 p.2.2.2.2.2.1 && true)))))) = true := by
  simp [eqI, eqS]
theorem Decode_any (n : Nat) (b : List Int) (hb : ∀ x ∈ b, isB x) (hl : b.length ≤ 100000) (hn : 200000 < n) :
    frame_Decode.f n b = some (none3, 3, ()) ∨ ∃ p, Pwf p ∧ right p = true ∧ b = enc p ∧ frame_Decode.f n b = some (p, 0, ()) := by
  rcases first_any n b hb (by omega) (by omega) with h | ⟨p, r, wp, lp, e, h⟩
  · exact .inl (Decode_some n b _ _ _ h)
  · have := Decode_some n b _ _ _ h
    by_cases hc : right p = true ∧ ((enc p).length : Int) = (b.length : Int)
    · rw [if_pos hc] at this
      have hr : r = [] := by
        have h2 := congrArg List.length e
        rw [List.length_append] at h2
        exact List.eq_nil_of_length_eq_zero (by omega)
      subst hr
      rw [List.append_nil] at e
      exact .inr ⟨p, wp, hc.1, e, this⟩
    · rw [if_neg hc] at this
      exact .inl this
theorem back_j (n : Nat) (b : List Int) (hb : ∀ x ∈ b, isB x) (hn : 200000 < n) : law03_FrameBack.j1 n b = some true := by
  unfold law03_FrameBack.j1
  rw [few_run]
  simp -implicitDefEqProofs only [Option.bind_some]
  have hb' : ∀ x ∈ b.take 40000, isB x := fun x hx => hb x (List.mem_of_mem_take hx)
  rcases Decode_any n (b.take 40000) hb' (by rw [List.length_take]; omega) hn with h | ⟨p, wp, rp, e, h⟩
  · rw [h, live_run n (by omega)]
    rfl
  · rw [h, live_run n (by omega)]
    simp -implicitDefEqProofs only [Option.bind_some]
    rw [show (p.1, p.2.1, p.2.2.1, p.2.2.2.1, p.2.2.2.2.1, p.2.2.2.2.2.1, p.2.2.2.2.2.2) = p from rfl, Encode_run n (by omega) p wp, if_pos rp, ← e]
    simp
theorem FrameBack_law (n : Nat) (p : DPacket) (b : List Int) (wp : Pwf p) (hb : ∀ x ∈ b, isB x) (hn : 200000 < n) : law03_FrameBack.f n p b = some true := by
  unfold law03_FrameBack.f
  rw [show (p.1, p.2.1, p.2.2.1, p.2.2.2.1, p.2.2.2.2.1, p.2.2.2.2.2.1, p.2.2.2.2.2.2) = p from rfl, Encode_run n (by omega) p wp, back_j n b hb hn]
  by_cases hr : right p = true
  · rw [if_pos hr]
    simp -implicitDefEqProofs only [Option.bind_some, decide_true, cond_true]
    rw [Decode_enc n (by omega) p wp hr]
    simp -implicitDefEqProofs only [Option.bind_some, decide_true, Bool.not_true, cond_false, pk_self]
    have hl := right_len hr
    rw [enc_len, i64_wrap (by omega) (by omega)]
    simp
  · rw [if_neg hr]
    rfl
theorem FrameEnds_law (n : Nat) (p : DPacket) (m : Int) (more : List Int) (wp : Pwf p) (hm : 0 ≤ m ∧ m < 65536) (hb : ∀ x ∈ more, isB x) (hn : 200000 < n) : law03_FrameEnds.f n p m more = some true := by
  unfold law03_FrameEnds.f
  rw [show (p.1, p.2.1, p.2.2.1, p.2.2.2.1, p.2.2.2.2.1, p.2.2.2.2.2.1, p.2.2.2.2.2.2) = p from rfl, Encode_run n (by omega) p wp]
  by_cases hr : right p = true
  · rw [if_pos hr]
    have hl := right_len hr
    have hel := enc_len p
    have hne : ((enc p).length : Int) ≠ 0 := by omega
    simp -implicitDefEqProofs only [Option.bind_some, decide_true, Bool.not_true, cond_false, hne, decide_false]
    rw [few_run, i64_wrap (by omega) (by omega)]
    have hml : (more.take 40000).length ≤ 40000 := by rw [List.length_take]; omega
    have hmb : ∀ x ∈ more.take 40000, isB x := fun x hx => hb x (List.mem_of_mem_take hx)
    simp -implicitDefEqProofs only [Option.bind_some]
    rw [nzK_in hne]
    generalize more.take 40000 = t at hml hmb
    have hm0 : 0 ≤ Int.tmod m ((enc p).length : Int) := Int.tmod_nonneg _ hm.1
    have hm1 : Int.tmod m ((enc p).length : Int) < ((enc p).length : Int) := Int.tmod_lt_of_pos _ (by omega)
    generalize Int.tmod m ((enc p).length : Int) = q at hm0 hm1
    obtain ⟨q, rfl⟩ := Int.eq_ofNat_of_zero_le hm0
    rw [sliceK_in (by omega) hm0 (by omega)]
    have e1 : cut (enc p) 0 (q : Int) = (enc p).take q := by unfold cut; rw [Int.toNat_natCast]; rfl
    have e2 : frame_first.f n ((enc p).take q) = some (none3, 0, false, ()) := first_part n p _ ((enc p).drop q) wp (by omega) (List.take_append_drop _ _) (fun h => by
      have := congrArg List.length h
      rw [List.length_drop] at this
      simp at this
      omega) (fun x hx => enc_bytes wp x (List.mem_of_mem_take hx)) hn
    have e3 := Decode_some n _ _ _ _ e2
    have e3' : frame_Decode.f n ((enc p).take q) = some (none3, 3, ()) := e3
    rw [e1, e3']
    simp -implicitDefEqProofs only [Option.bind_some]
    rw [appK_in (by simp; omega), appK_in (by simp; omega), live_run n (by omega)]
    rw [List.nil_append]
    have f1 := first_enc n p t wp (by omega) (by omega) (by omega)
    rw [hr] at f1
    have f2 := Decode_some n _ _ _ _ f1
    have f3 := Cut_some n _ [] _ _ _ f1 (by simp) (by rw [List.length_append]; omega)
    rw [f2, f3, if_pos rfl, List.drop_left]
    simp -implicitDefEqProofs only [Option.bind_some, decide_true, cond_true, pk_self]
    by_cases ht : t = []
    · subst ht
      simp [bbeq]
    · have hlt : t.length ≠ 0 := fun h => ht (List.eq_nil_of_length_eq_zero h)
      have hc : ¬ (True ∧ ((enc p).length : Int) = ((enc p ++ t).length : Int)) := by
        rw [List.length_append]; omega
      have hc2 : ¬ ((t.length : Int) = 0) := by omega
      simp only [hc, if_false, hc2]
      simp [bbeq]
  · rw [if_neg hr, live_run n (by omega)]
    rfl
end Go.Proofs.Ytmglcaonmbpciaa.S
