/- Frames: FrameTurned, as a plain law. -/
import Derived.Test.YtmglcaonmbpciaaFrE
set_option linter.unusedVariables false
set_option linter.unusedSimpArgs false
namespace Go.Proofs.Ytmglcaonmbpciaa.S
open Go Go.Proofs Go.Proofs.Bw

theorem xor_byte {x y : Int} (hx : isB x) (hy : isB y) (hy0 : y ≠ 0) : isB (ixor .u8 x y) ∧ ixor .u8 x y ≠ x := by
  unfold isB at hx hy
  obtain ⟨a, rfl⟩ := Int.eq_ofNat_of_zero_le hx.1
  obtain ⟨b, rfl⟩ := Int.eq_ofNat_of_zero_le hy.1
  have h1 : BitVec.ofInt (IntKind.bits .u8) (a : Int) = BitVec.ofNat 8 a := by simp [IntKind.bits]
  have h2 : BitVec.ofInt (IntKind.bits .u8) (b : Int) = BitVec.ofNat 8 b := by simp [IntKind.bits]
  have e : ixor .u8 (a : Int) (b : Int) = ((BitVec.ofNat 8 a ^^^ BitVec.ofNat 8 b).toNat : Int) := by
    unfold ixor
    rw [h1, h2, u8_wrap]
    have : (BitVec.ofNat 8 a ^^^ BitVec.ofNat 8 b).toNat < 256 := (BitVec.ofNat 8 a ^^^ BitVec.ofNat 8 b).isLt
    show ((BitVec.ofNat 8 a ^^^ BitVec.ofNat 8 b).toNat : Int) % 256 = _
    omega
  have hlt : (BitVec.ofNat 8 a ^^^ BitVec.ofNat 8 b).toNat < 256 := (BitVec.ofNat 8 a ^^^ BitVec.ofNat 8 b).isLt
  rw [e]
  refine ⟨⟨by omega, by omega⟩, fun h => ?_⟩
  have h3 : (BitVec.ofNat 8 a ^^^ BitVec.ofNat 8 b) = BitVec.ofNat 8 a := by
    apply BitVec.eq_of_toNat_eq
    rw [BitVec.toNat_ofNat, Nat.mod_eq_of_lt (by omega)]
    omega
  have h4 : BitVec.ofNat 8 b = 0#8 := by
    have := congrArg (fun z => BitVec.ofNat 8 a ^^^ z) h3
    simpa [← BitVec.xor_assoc] using this
  have h5 := congrArg BitVec.toNat h4
  rw [BitVec.toNat_ofNat, Nat.mod_eq_of_lt (by omega)] at h5
  simp at h5
  omega
theorem pk_ne {p q : DPacket} (h : q ≠ p) : (eqI q.1 p.1 && (eqI q.2.1 p.2.1 && (eqI q.2.2.1 p.2.2.1 && (eqI q.2.2.2.1 p.2.2.2.1 && (eqI q.2.2.2.2.1 p.2.2.2.2.1 && (eqS q.2.2.2.2.2.1 p.2.2.2.2.2.1 && true)))))) = false := by
  cases e : (eqI q.1 p.1 && (eqI q.2.1 p.2.1 && (eqI q.2.2.1 p.2.2.1 && (eqI q.2.2.2.1 p.2.2.2.1 && (eqI q.2.2.2.2.1 p.2.2.2.2.1 && (eqS q.2.2.2.2.2.1 p.2.2.2.2.2.1 && true)))))) with
  | false => rfl
  | true =>
    exfalso
    simp only [eqI, eqS, Bool.and_eq_true, decide_eq_true_eq, and_true] at e
    obtain ⟨e1, e2, e3, e4, e5, e6⟩ := e
    obtain ⟨q1, q2, q3, q4, q5, q6, ⟨⟩⟩ := q
    obtain ⟨p1, p2, p3, p4, p5, p6, ⟨⟩⟩ := p
    simp only [] at e1 e2 e3 e4 e5 e6
    subst e1 e2 e3 e4 e5 e6
    exact h rfl
theorem FrameTurned_law (n : Nat) (p : DPacket) (at' by' : Int) (wp : Pwf p) (ha : 0 ≤ at' ∧ at' < 65536) (hby : isB by') (hn : 200000 < n) : law03_FrameTurned.f n p at' by' = some true := by
  unfold law03_FrameTurned.f
  rw [show (p.1, p.2.1, p.2.2.1, p.2.2.2.1, p.2.2.2.2.1, p.2.2.2.2.2.1, p.2.2.2.2.2.2) = p from rfl, Encode_run n (by omega) p wp]
  by_cases hr : right p = true
  · rw [if_pos hr]
    have hl := right_len hr
    have hel := enc_len p
    have h19 : ¬ (((enc p).length : Int) < 19) := by omega
    simp -implicitDefEqProofs only [Option.bind_some, decide_true, Bool.not_true, cond_false, h19, decide_false]
    by_cases h0 : by' = 0
    · simp -implicitDefEqProofs only [h0, decide_true, cond_true, Option.bind_some]
      rw [live_run n (by omega)]
      rfl
    · simp -implicitDefEqProofs only [h0, decide_false, cond_false, Option.bind_some]
      rw [appK_in (by simp; omega), i64_wrap (by omega) (by omega), List.nil_append, nzK_in (by omega)]
      have hm0 : 0 ≤ Int.tmod at' ((enc p).length : Int) := Int.tmod_nonneg _ ha.1
      have hm1 : Int.tmod at' ((enc p).length : Int) < ((enc p).length : Int) := Int.tmod_lt_of_pos _ (by omega)
      generalize Int.tmod at' ((enc p).length : Int) = q at hm0 hm1
      obtain ⟨q, rfl⟩ := Int.eq_ofNat_of_zero_le hm0
      have hq : q < (enc p).length := by omega
      have hin : ∀ {R : Type} {K : Option R}, inK' (q : Int) (enc p).length K = K := by intro R K; simp [inK', hm1]
      have hbq : isB ((enc p)[q]) := enc_bytes wp _ (List.getElem_mem hq)
      rw [hin, idxK_at (e := (enc p)[q]) (by omega) (by simp [hq]), hin, idxK_at (e := (enc p)[q]) (by omega) (by simp [hq])]
      obtain ⟨x1, x2⟩ := xor_byte hbq hby h0
      have hb : ∀ x ∈ lset (enc p) (q : Int) (ixor .u8 ((enc p)[q]) by'), isB x := by
        intro x hx
        rcases List.mem_or_eq_of_mem_set hx with h | h
        · exact enc_bytes wp x h
        · rw [h]; exact x1
      rcases Decode_any n _ hb (by rw [lset_length]; omega) hn with h | ⟨p', wp', rp', e, h⟩
      · rw [h, live_run n (by omega)]
        rfl
      · rw [h, live_run n (by omega)]
        have hne : p' ≠ p := by
          rintro rfl
          have h2 := congrArg (fun l : List Int => l[q]?) e
          simp only [lset, Int.toNat_natCast, List.getElem?_set_self hq, List.getElem?_eq_getElem hq, Option.some.injEq] at h2
          exact x2 h2
        simp -implicitDefEqProofs only [Option.bind_some, decide_true, Bool.not_true, cond_false, cond_true, pk_ne hne, Bool.not_false]
  · rw [if_neg hr, live_run n (by omega)]
    rfl
theorem FrameTurned_pure (p : DPacket) (a b : Int) (hp : Ty.wf TPacket p) (ha : Ty.wf (.int .u16) a) (hb : Ty.wf (.int .u8) b) : law03_FrameTurned.f 300000 p a b = some true :=
  FrameTurned_law _ p a b (Pwf_wf hp) (u16_in.1 ha) (u8_in.1 hb) (by decide)
end Go.Proofs.Ytmglcaonmbpciaa.S
