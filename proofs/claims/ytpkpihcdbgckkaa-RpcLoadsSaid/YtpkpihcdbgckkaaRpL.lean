/- A callee out of bytes: what both know of a packet, and as bytes. -/
import Derived.Test.YtpkpihcdbgckkaaSFn
set_option linter.unusedVariables false
set_option linter.unusedSimpArgs false
namespace Go.Proofs.Ytpkpihcdbgckkaa.S
open Go Go.Proofs Go.Proofs.Bw

theorem live_ok (n : Nat) : law11_live.f n = some true := by kernel_rfl
def rightB (p : DPacket) : Bool :=
  ((decide (p.1 = 1) && decide (p.2.2.1 = 0) && decide (1 ≤ p.2.1) && decide (p.2.1 ≤ 3)) || (decide (p.1 = 2) && decide (p.2.1 = 0) && decide (1 ≤ p.2.2.1) && decide (p.2.2.1 ≤ 3))) &&
    decide (0 < p.2.2.2.2.1) && decide ((p.2.2.2.2.2.1.length : Int) ≤ 16384)
theorem Right_run (n : Nat) (p : DPacket) : frame_Right.f n p = some (rightB p) := by
  obtain ⟨k, f, t, e, q, b, u⟩ := p
  simp only [frame_Right.f, frame_Right.j1, rightB]
  by_cases h1 : k = 1
  · subst h1
    by_cases h2 : t = 0
    · subst h2
      cases hd1 : decide ((1 : Int) ≤ f) <;> cases hd2 : decide (f ≤ (3 : Int)) <;> cases hd3 : decide ((0 : Int) < q) <;> simp_all
    · simp [h2]
  · by_cases h2 : k = 2
    · subst h2
      by_cases h3 : f = 0
      · subst h3
        cases hd1 : decide ((1 : Int) ≤ t) <;> cases hd2 : decide (t ≤ (3 : Int)) <;> cases hd3 : decide ((0 : Int) < q) <;> simp_all
      · simp [h3]
    · simp [h1, h2]
theorem lnth_at {α : Type} {l : List α} {i : Int} {j : Nat} {e : α} (hi : i = (j : Int)) (h : l[j]? = some e) : lnth l i = some e := by
  subst hi; simpa [lnth] using h
theorem inK'_in {R : Type} {i : Int} {n : Nat} {K : Option R} (h0 : 0 ≤ i) (h1 : i < (n : Int)) : inK' i n K = K := by simp [inK', h0, h1]
def zeroP : DPacket := (0, 0, 0, 0, 0, [], ())
def takeC (l : List Dpast) (i : Nat) (e : Dpast) (p : DPacket) : (Option DCallee) × ((List Int) × Bool × DPacket × Bool × Unit) :=
  if p.1 = 1 ∧ rightB p = true then
    (if e.1 = 0 ∨ e.2.1 < p.2.2.2.1 ∨ (p.2.2.2.1 = e.2.1 ∧ e.2.2.1 < p.2.2.2.2.1) then (some (l.set i (1, p.2.2.2.1, p.2.2.2.2.1, [], ()), ()), p.2.2.2.2.2.1, true, zeroP, false, ())
     else if e.1 = 2 ∧ p.2.2.2.1 = e.2.1 ∧ p.2.2.2.2.1 = e.2.2.1 then (some (l, ()), [], false, (2, 0, p.2.1, e.2.1, e.2.2.1, e.2.2.2.1, ()), true, ())
     else (some (l, ()), [], false, zeroP, false, ()))
  else (some (l, ()), [], false, zeroP, false, ())
theorem Take_run (n : Nat) (l : List Dpast) (i : Nat) (e : Dpast) (p : DPacket) (hi : p.1 = 1 → rightB p = true → p.2.1 = (i : Int) + 1) (hi3 : i < 3) (he : l[i]? = some e) : rpc_Callee_Take.f n (some (l, ())) p = some (takeC l i e p) := by
  obtain ⟨k, f, t, ep, q, b, u⟩ := p
  simp only [rpc_Callee_Take.f, optM, Option.bind_some, Right_run]
  unfold takeC
  by_cases h1 : k = 1
  · by_cases h2 : rightB (k, f, t, ep, q, b, u) = true
    · have hf : f = (i : Int) + 1 := hi h1 h2
      have hw : IntKind.u8.wrap (f - 1) = (i : Int) := by rw [u8_wrap]; omega
      simp only [h1, hw] at h2 ⊢
      rw [inK'_in (by omega) (by omega), lnth_at rfl he]
      obtain ⟨s, ee, qq, bb, uu⟩ := e
      simp only [Option.bind_some, rpc_past_answer.f, h2, decide_true, Bool.not_true, cond_false, if_true, lset, Int.toNat_natCast, true_and]
      by_cases c1 : s = 0
      · subst c1; by_cases c2 : ep = ee <;> by_cases c3 : q = qq <;> simp [c2, c3, zeroP]
      · by_cases c2 : ee < ep
        · have : ep ≠ ee := by omega
          simp [c1, c2, this, zeroP]
        · by_cases c3 : ep = ee
          · subst c3
            by_cases c4 : qq < q
            · have : q ≠ qq := by omega
              simp [c1, c4, this, zeroP]
            · by_cases c5 : q = qq
              · subst c5
                by_cases c6 : s = 2
                · subst c6; simp [zeroP]
                · simp [c1, c6, zeroP]
              · simp [c1, c4, c5, zeroP]
          · simp [c1, c2, c3, zeroP]
    · simp only [Bool.not_eq_true] at h2
      simp [h1, h2, zeroP]
      subst h1; simp [h2]
  · simp [h1, zeroP]
def Nn (p : DPacket) : Prop := 0 ≤ p.2.1 ∧ 0 ≤ p.2.2.1 ∧ 0 ≤ p.2.2.2.2.1
theorem rRight_run (n : Nat) (p : DPacket) (h : Nn p) : r03_Right.f n p = some (rightB p) := by
  obtain ⟨k, f, t, e, q, b, u⟩ := p
  obtain ⟨h1, h2, h3⟩ := h
  simp only at h1 h2 h3
  simp only [r03_Right.f, rightB]
  have e1 : decide (1 ≤ f) = !decide (f = 0) := by by_cases hh : f = 0 <;> simp [hh] <;> omega
  have e2 : decide (1 ≤ t) = !decide (t = 0) := by by_cases hh : t = 0 <;> simp [hh] <;> omega
  have e3 : decide (0 < q) = !decide (q = 0) := by by_cases hh : q = 0 <;> simp [hh] <;> omega
  have e4 : decide (f ≤ 3) = !decide (3 < f) := by by_cases hh : 3 < f <;> simp [hh] <;> omega
  have e5 : decide (t ≤ 3) = !decide (3 < t) := by by_cases hh : 3 < t <;> simp [hh] <;> omega
  have e6 : decide ((b.length : Int) ≤ 16384) = !decide ((16384 : Int) < b.length) := by by_cases hh : (16384 : Int) < b.length <;> simp [hh] <;> omega
  have x1 : decide (f = 0) = true → decide (3 < f) = false := fun hh => by have := of_decide_eq_true hh; simp; omega
  have x2 : decide (t = 0) = true → decide (3 < t) = false := fun hh => by have := of_decide_eq_true hh; simp; omega
  have x3 : decide (k = 1) = true → decide (k = 2) = false := fun hh => by have := of_decide_eq_true hh; simp; omega
  rw [e1, e2, e3, e4, e5, e6]
  clear e1 e2 e3 e4 e5 e6
  generalize decide (f = 0) = a1 at *
  generalize decide (t = 0) = a2 at *
  generalize decide (q = 0) = a3 at *
  generalize decide (3 < f) = a4 at *
  generalize decide (3 < t) = a5 at *
  generalize decide ((16384 : Int) < b.length) = a6 at *
  generalize decide (k = 1) = a7 at *
  generalize decide (k = 2) = a8 at *
  cases a3 <;> cases a6 <;> cases a4 <;> cases a5 <;> cases a1 <;> cases a2 <;> cases a7 <;> cases a8 <;> first | rfl | (exact absurd (x1 rfl) (by decide)) | (exact absurd (x2 rfl) (by decide)) | (exact absurd (x3 rfl) (by decide))
def z0 : Dpast := (0, 0, 0, [], ())
def mB : Option DCallee → Option DCallee'
  | some (l, u) => some (z0 :: l, u)
  | none => none
theorem STake_B (n : Nat) (l : List Dpast) (i : Nat) (e : Dpast) (p : DPacket) (hp : Nn p) (hi : p.1 = 1 → rightB p = true → p.2.1 = (i : Int) + 1) (hi3 : i < 3) (he : l[i]? = some e) :
    r11_Callee_Take.f n (some (z0 :: l, ())) p = some (mB (takeC l i e p).1, (takeC l i e p).2) := by
  obtain ⟨k, f, t, ep, q, b, u⟩ := p
  simp only [r11_Callee_Take.f, r11_Callee_Take.j1, r11_Callee_answer.f, optM, Option.bind_some, rRight_run n _ hp]
  unfold takeC
  by_cases h2 : rightB (k, f, t, ep, q, b, u) = true
  · by_cases h1 : k = 1
    · have hf : f = (i : Int) + 1 := hi h1 h2
      simp only [h1, hf] at h2 ⊢
      have hl : lnth (z0 :: l) ((i : Int) + 1) = some e := lnth_at (j := i + 1) (by omega) (by simpa using he)
      have hs : ∀ x : Dpast, lset (z0 :: l) ((i : Int) + 1) x = z0 :: l.set i x := fun x => by
        unfold lset
        rw [show ((i : Int) + 1).toNat = i + 1 by omega]
        rfl
      have hx : ∀ {R : Type} (K : Dpast → Option R), idxK (z0 :: l) ((i : Int) + 1) K = K e := fun K => idxK_at (by omega) (by rw [show ((i : Int) + 1).toNat = i + 1 by omega]; simpa using he)
      rw [inK'_in (by omega) (by omega), hl]
      obtain ⟨s, ee, qq, bb, uu⟩ := e
      simp only [Option.bind_some, h2, decide_true, Bool.not_true, cond_false, if_true, true_and, hs, hx]
      rw [inK'_in (by omega) (by omega)]
      by_cases c1 : s = 0
      · subst c1; by_cases c2 : ep = ee <;> by_cases c3 : q = qq <;> simp [c2, c3, zeroP, mB]
      · by_cases c2 : ee < ep
        · have : ep ≠ ee := by omega
          simp [c1, c2, this, zeroP, mB]
        · by_cases c3 : ep = ee
          · subst c3
            by_cases c4 : qq < q
            · have : q ≠ qq := by omega
              simp [c1, c4, this, zeroP, mB]
            · by_cases c5 : q = qq
              · subst c5
                by_cases c6 : s = 2
                · subst c6; simp [zeroP, mB]
                · simp [c1, c6, zeroP, mB]
              · by_cases c6 : s = 2 <;> simp [c1, c4, c5, c6, zeroP, mB]
          · by_cases c6 : s = 2 <;> simp [c1, c2, c3, c6, zeroP, mB]
    · simp [h1, h2, zeroP, mB]
  · simp only [Bool.not_eq_true] at h2
    simp [h2, zeroP, mB]
def U32 (x : Int) : Prop := 0 ≤ x ∧ x < 4294967296
def Past (e : Dpast) : Prop := (e.1 = 0 ∨ e.1 = 1 ∨ e.1 = 2) ∧ U32 e.2.1 ∧ U32 e.2.2.1 ∧ e.2.2.2.1.length ≤ 16384
def be4 (x : Int) : List Int := [x / 16777216 % 256, x / 65536 % 256, x / 256 % 256, x % 256]
def be2 (x : Int) : List Int := [x / 256 % 256, x % 256]
def encP (e : Dpast) : List Int := if e.1 = 0 then [0] else [e.1] ++ be4 e.2.1 ++ be4 e.2.2.1 ++ (if e.1 = 2 then be2 (e.2.2.2.1.length : Int) ++ e.2.2.2.1 else [])
theorem put_run (n : Nat) (a : List Int) (x : Int) (ha : a.length ≤ 1000000) (hx : U32 x) : rpc_put.f n a x = some (a ++ be4 x) := by
  unfold rpc_put.f
  rw [geK_in (by decide), geK_in (by decide), geK_in (by decide), appK_in (by simp only [List.length_cons, List.length_nil]; omega)]
  rw [shr_u32 (by decide), shr_u32 (by decide), shr_u32 (by decide)]
  simp only [u8_wrap, be4]
  rfl
theorem encP_len {e : Dpast} (h : Past e) : (encP e).length ≤ 20000 := by
  unfold encP
  have := h.2.2.2
  split
  · simp
  · split <;> simp [be4, be2] <;> omega
theorem BytesA_step (n k : Nat) (acc : List Int) (l : List Dpast) (i : Nat) (e : Dpast) (he : l[i]? = some e) (hi : i < 3) (hp : Past e) (ha : acc.length ≤ 100000) : rpc_Callee_Bytes.l2 n (k + 1) acc l (i : Int) = rpc_Callee_Bytes.l2 n k (acc ++ encP e) l ((i + 1 : Nat) : Int) := by
  obtain ⟨st, ep, sq, bd, u⟩ := e
  obtain ⟨h1, h2, h3, h4⟩ := hp
  simp only at h1 h2 h3 h4
  rw [rpc_Callee_Bytes.l2, decide_eq_true (show (i : Int) < 3 by omega), cond_true, idxK_at (by omega) (by simpa using he), appK_in (by simp only [List.length_cons, List.length_nil]; omega)]
  have hj : ∀ (m : List Int), rpc_Callee_Bytes.j3 n (rpc_Callee_Bytes.l2 n k) m l (i : Int) = rpc_Callee_Bytes.l2 n k m l ((i + 1 : Nat) : Int) := fun m => by
    unfold rpc_Callee_Bytes.j3
    rw [i64_wrap (by omega) (by omega), show (i : Int) + 1 = ((i + 1 : Nat) : Int) by omega]
  by_cases s0 : st = 0
  · subst s0
    simp only [decide_true, Bool.not_true, cond_false, rpc_Callee_Bytes.j4, show decide ((0 : Int) = 2) = false from rfl, hj, encP, if_true]
  · simp only [decide_eq_false s0, Bool.not_false, cond_true]
    rw [put_run n _ ep (by simp; omega) h2]
    simp only [Option.bind_some]
    rw [put_run n _ sq (by simp [be4]; omega) h3]
    simp only [Option.bind_some, rpc_Callee_Bytes.j4]
    by_cases s2 : st = 2
    · subst s2
      rw [decide_eq_true (rfl : (2 : Int) = 2), cond_true, geK_in (by decide), appK_in (by simp [be4]; omega), appK_in (by simp [be4]; omega), shr_i64 (by decide), hj]
      simp [encP, u8_wrap, be2]
    · rw [decide_eq_false s2, cond_false, hj]
      simp [encP, s0, s2]
theorem three {l : List Dpast} (h : l.length = 3) : ∃ a b c, l = [a, b, c] := by
  match l, h with
  | [a, b, c], _ => exact ⟨a, b, c, rfl⟩
end Go.Proofs.Ytpkpihcdbgckkaa.S
