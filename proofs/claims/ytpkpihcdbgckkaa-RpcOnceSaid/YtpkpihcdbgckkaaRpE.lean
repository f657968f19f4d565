/- Callees: the given one and the document's answer the same. -/
import Derived.Test.YtpkpihcdbgckkaaRpD
set_option linter.unusedVariables false
set_option linter.unusedSimpArgs false
namespace Go.Proofs.Ytpkpihcdbgckkaa.S
open Go Go.Proofs Go.Proofs.Bw

def z0 : Dpast := (0, 0, 0, [], ())
def mB : Option DCallee → Option DCallee'
  | some (l, u) => some (z0 :: l, u)
  | none => none
theorem STake_B (n : Nat) (l : List Dpast) (i : Nat) (e : Dpast) (p : DPacket) (hp : Nn p) (hi : p.1 = 1 → rightB p = true → p.2.1 = (i : Int) + 1) (hi3 : i < 3) (he : l[i]? = some e) :
    r11_Callee_Take.f n (some (z0 :: l, ())) p = some (mB (takeC l i e p).1, (takeC l i e p).2) := by
  obtain ⟨k, f, t, ep, q, b, u⟩ := p
  simp only [r11_Callee_Take.f, r11_Callee_Take.j1, r11_Callee_answer.f, optM, Option.bind_some, rRight_run n _ hp]
  unfold takeC
  by_cases h2 : rightB (k, f, t, ep, q, b, u) = true
  · by_cases h1 : k = 1
    · have hf : f = (i : Int) + 1 := hi h1 h2
      simp only [h1, hf] at h2 ⊢
      have hl : lnth (z0 :: l) ((i : Int) + 1) = some e := lnth_at (j := i + 1) (by omega) (by simpa using he)
      have hs : ∀ x : Dpast, lset (z0 :: l) ((i : Int) + 1) x = z0 :: l.set i x := fun x => by
        unfold lset
        rw [show ((i : Int) + 1).toNat = i + 1 by omega]
        rfl
      have hx : ∀ {R : Type} (K : Dpast → Option R), idxK (z0 :: l) ((i : Int) + 1) K = K e := fun K => idxK_at (by omega) (by rw [show ((i : Int) + 1).toNat = i + 1 by omega]; simpa using he)
      rw [inK'_in (by omega) (by omega), hl]
      obtain ⟨s, ee, qq, bb, uu⟩ := e
      simp only [Option.bind_some, h2, decide_true, Bool.not_true, cond_false, if_true, true_and, hs, hx]
      rw [inK'_in (by omega) (by omega)]
      by_cases c1 : s = 0
      · subst c1; by_cases c2 : ep = ee <;> by_cases c3 : q = qq <;> simp [c2, c3, zeroP, mB]
      · by_cases c2 : ee < ep
        · have : ep ≠ ee := by omega
          simp [c1, c2, this, zeroP, mB]
        · by_cases c3 : ep = ee
          · subst c3
            by_cases c4 : qq < q
            · have : q ≠ qq := by omega
              simp [c1, c4, this, zeroP, mB]
            · by_cases c5 : q = qq
              · subst c5
                by_cases c6 : s = 2
                · subst c6; simp [zeroP, mB]
                · simp [c1, c6, zeroP, mB]
              · by_cases c6 : s = 2 <;> simp [c1, c4, c5, c6, zeroP, mB]
          · by_cases c6 : s = 2 <;> simp [c1, c2, c3, c6, zeroP, mB]
    · simp [h1, h2, zeroP, mB]
  · simp only [Bool.not_eq_true] at h2
    simp [h2, zeroP, mB]
def replyO (l : List Dpast) (i : Nat) (e : Dpast) (c : Int) (s : List Int) : List Dpast × DPacket × Int :=
  if c < 1 ∨ 3 < c then (l, zeroP, 2) else if e.1 ≠ 1 then (l, zeroP, 5) else if (16384 : Int) < s.length then (l, zeroP, 3) else (l.set i (2, e.2.1, e.2.2.1, s, ()), (2, 0, c, e.2.1, e.2.2.1, s, ()), 0)
theorem Reply_A (n : Nat) (l : List Dpast) (i : Nat) (e : Dpast) (c : Int) (s : List Int) (hc : 0 ≤ c) (hi : 1 ≤ c → c ≤ 3 → c = (i : Int) + 1) (hi3 : i < 3) (he : l[i]? = some e) :
    rpc_Callee_Reply.f n (some (l, ())) c s = some (some ((replyO l i e c s).1, ()), (replyO l i e c s).2.1, (replyO l i e c s).2.2, ()) := by
  simp only [rpc_Callee_Reply.f, optM, Option.bind_some, rpc_past_answer.f]
  unfold replyO
  by_cases h1 : c < 1 ∨ 3 < c
  · rw [if_pos h1]
    have : decide (c = 0) = true ∨ (decide (c = 0) = false ∧ decide (3 < c) = true) := by
      by_cases h0 : c = 0
      · exact .inl (decide_eq_true h0)
      · exact .inr ⟨decide_eq_false h0, decide_eq_true (by omega)⟩
    rcases this with h | ⟨h, h'⟩
    · simp [h, zeroP]
    · simp [h, h', zeroP]
  · have hci : c = (i : Int) + 1 := hi (by omega) (by omega)
    have hw : IntKind.u8.wrap (c - 1) = (i : Int) := by rw [u8_wrap]; omega
    rw [if_neg h1, decide_eq_false (show ¬ c = 0 by omega), decide_eq_false (show ¬ 3 < c by omega)]
    simp only [cond_false, Option.bind_some, hw]
    have hlt := (List.getElem?_eq_some_iff.1 he).1
    have hs : ∀ (l : List Dpast) (x : Dpast), lset l (i : Int) x = l.set i x := fun l x => rfl
    have hl : ∀ (l : List Dpast) (x : Dpast), i < l.length → lnth (l.set i x) (i : Int) = some x := fun l x h => lnth_at rfl (by simp [h])
    rw [inK'_in (by omega) (by omega), lnth_at rfl he]
    obtain ⟨st, ee, qq, bb, uu⟩ := e
    simp only [Option.bind_some, hs]
    by_cases h2 : st = 1
    · by_cases h3 : (16384 : Int) < s.length
      · simp [h2, h3, zeroP]
      · rw [hl _ _ hlt]
        simp only [Option.bind_some]
        rw [hl _ _ (by simpa using hlt)]
        simp [h2, h3]
    · simp [h2, zeroP]
theorem Reply_B (n : Nat) (l : List Dpast) (i : Nat) (e : Dpast) (c : Int) (s : List Int) (hc : 0 ≤ c) (hi : 1 ≤ c → c ≤ 3 → c = (i : Int) + 1) (hi3 : i < 3) (he : l[i]? = some e) :
    r11_Callee_Reply.f n (some (z0 :: l, ())) c s = some (some (z0 :: (replyO l i e c s).1, ()), (replyO l i e c s).2.1, (replyO l i e c s).2.2, ()) := by
  simp only [r11_Callee_Reply.f, r11_Callee_Reply.j1, r11_Callee_answer.f, optM, Option.bind_some]
  unfold replyO
  by_cases h1 : c < 1 ∨ 3 < c
  · rw [if_pos h1]
    rcases h1 with h | h
    · simp [h, zeroP]
    · have : ¬ c < 1 := by omega
      simp [h, this, zeroP]
  · have hci : c = (i : Int) + 1 := hi (by omega) (by omega)
    rw [if_neg h1, decide_eq_false (show ¬ c < 1 by omega), decide_eq_false (show ¬ 3 < c by omega)]
    simp only [cond_false, Option.bind_some]
    have hlt := (List.getElem?_eq_some_iff.1 he).1
    have hs : ∀ (l : List Dpast) (x : Dpast), lset (z0 :: l) c x = z0 :: l.set i x := fun l x => by
      unfold lset
      rw [show c.toNat = i + 1 by omega]
      rfl
    have hl : ∀ (l : List Dpast) (x : Dpast), i < l.length → lnth (z0 :: l.set i x) c = some x := fun l x h => lnth_at (j := i + 1) (by omega) (by simp [h])
    have hl0 : lnth (z0 :: l) c = some e := lnth_at (j := i + 1) (by omega) (by simpa using he)
    have hx : ∀ {R : Type} (l : List Dpast) (x : Dpast) (K : Dpast → Option R), i < l.length → idxK (z0 :: l.set i x) c K = K x := fun l x K h => idxK_at (by omega) (by rw [show c.toNat = i + 1 by omega]; simp [h])
    rw [inK'_in (by omega) (by omega), hl0]
    obtain ⟨st, ee, qq, bb, uu⟩ := e
    simp only [Option.bind_some, hs]
    by_cases h2 : st = 1
    · by_cases h3 : (16384 : Int) < s.length
      · simp [h2, h3, zeroP]
      · rw [inK'_in (by omega) (by omega), inK'_in (by omega) (by omega), hl _ _ hlt]
        simp only [Option.bind_some, hs]
        rw [hx _ _ _ (by simpa using hlt)]
        simp [h2, h3]
    · simp [h2, zeroP]
end Go.Proofs.Ytpkpihcdbgckkaa.S
