/- Calls: what the functions of the layer answer, in plain words. -/
import Derived.Test.YtpkpihcdbgckkaaSFn
import Derived.Test.YtpkpihcdbgckkaaBw4
set_option linter.unusedVariables false
set_option linter.unusedSimpArgs false
namespace Go.Proofs.Ytpkpihcdbgckkaa.S
open Go Go.Proofs Go.Proofs.Bw

theorem live_ok (n : Nat) : law11_live.f n = some true := by kernel_rfl
def rightB (p : DPacket) : Bool :=
  ((decide (p.1 = 1) && decide (p.2.2.1 = 0) && decide (1 ≤ p.2.1) && decide (p.2.1 ≤ 3)) || (decide (p.1 = 2) && decide (p.2.1 = 0) && decide (1 ≤ p.2.2.1) && decide (p.2.2.1 ≤ 3))) &&
    decide (0 < p.2.2.2.2.1) && decide ((p.2.2.2.2.2.1.length : Int) ≤ 16384)
theorem Right_run (n : Nat) (p : DPacket) : frame_Right.f n p = some (rightB p) := by
  obtain ⟨k, f, t, e, q, b, u⟩ := p
  simp only [frame_Right.f, frame_Right.j1, rightB]
  by_cases h1 : k = 1
  · subst h1
    by_cases h2 : t = 0
    · subst h2
      cases hd1 : decide ((1 : Int) ≤ f) <;> cases hd2 : decide (f ≤ (3 : Int)) <;> cases hd3 : decide ((0 : Int) < q) <;> simp_all
    · simp [h2]
  · by_cases h2 : k = 2
    · subst h2
      by_cases h3 : f = 0
      · subst h3
        cases hd1 : decide ((1 : Int) ≤ t) <;> cases hd2 : decide (t ≤ (3 : Int)) <;> cases hd3 : decide ((0 : Int) < q) <;> simp_all
      · simp [h3]
    · simp [h1, h2]
theorem lnth_at {α : Type} {l : List α} {i : Int} {j : Nat} {e : α} (hi : i = (j : Int)) (h : l[j]? = some e) : lnth l i = some e := by
  subst hi; simpa [lnth] using h
theorem inK'_in {R : Type} {i : Int} {n : Nat} {K : Option R} (h0 : 0 ≤ i) (h1 : i < (n : Int)) : inK' i n K = K := by simp [inK', h0, h1]
def zeroP : DPacket := (0, 0, 0, 0, 0, [], ())
/-- a callee takes a packet of client i + 1 -/
def takeC (l : List Dpast) (i : Nat) (e : Dpast) (p : DPacket) : (Option DCallee) × ((List Int) × Bool × DPacket × Bool × Unit) :=
  if p.1 = 1 ∧ rightB p = true then
    (if e.1 = 0 ∨ e.2.1 < p.2.2.2.1 ∨ (p.2.2.2.1 = e.2.1 ∧ e.2.2.1 < p.2.2.2.2.1) then (some (l.set i (1, p.2.2.2.1, p.2.2.2.2.1, [], ()), ()), p.2.2.2.2.2.1, true, zeroP, false, ())
     else if e.1 = 2 ∧ p.2.2.2.1 = e.2.1 ∧ p.2.2.2.2.1 = e.2.2.1 then (some (l, ()), [], false, (2, 0, p.2.1, e.2.1, e.2.2.1, e.2.2.2.1, ()), true, ())
     else (some (l, ()), [], false, zeroP, false, ()))
  else (some (l, ()), [], false, zeroP, false, ())
theorem Take_run (n : Nat) (l : List Dpast) (i : Nat) (e : Dpast) (p : DPacket) (hi : p.1 = 1 → rightB p = true → p.2.1 = (i : Int) + 1) (hi3 : i < 3) (he : l[i]? = some e) : rpc_Callee_Take.f n (some (l, ())) p = some (takeC l i e p) := by
  obtain ⟨k, f, t, ep, q, b, u⟩ := p
  simp only [rpc_Callee_Take.f, optM, Option.bind_some, Right_run]
  unfold takeC
  by_cases h1 : k = 1
  · by_cases h2 : rightB (k, f, t, ep, q, b, u) = true
    · have hf : f = (i : Int) + 1 := hi h1 h2
      have hw : IntKind.u8.wrap (f - 1) = (i : Int) := by rw [u8_wrap]; omega
      simp only [h1, hw] at h2 ⊢
      rw [inK'_in (by omega) (by omega), lnth_at rfl he]
      obtain ⟨s, ee, qq, bb, uu⟩ := e
      simp only [Option.bind_some, rpc_past_answer.f, h2, decide_true, Bool.not_true, cond_false, if_true, lset, Int.toNat_natCast, true_and]
      by_cases c1 : s = 0
      · subst c1; by_cases c2 : ep = ee <;> by_cases c3 : q = qq <;> simp [c2, c3, zeroP]
      · by_cases c2 : ee < ep
        · have : ep ≠ ee := by omega
          simp [c1, c2, this, zeroP]
        · by_cases c3 : ep = ee
          · subst c3
            by_cases c4 : qq < q
            · have : q ≠ qq := by omega
              simp [c1, c4, this, zeroP]
            · by_cases c5 : q = qq
              · subst c5
                by_cases c6 : s = 2
                · subst c6; simp [zeroP]
                · simp [c1, c6, zeroP]
              · simp [c1, c4, c5, zeroP]
          · simp [c1, c2, c3, zeroP]
    · simp only [Bool.not_eq_true] at h2
      simp [h1, h2, zeroP]
      subst h1; simp [h2]
  · simp [h1, zeroP]
/-! RpcWaits -/
def cal (ask : DPacket) (busy : Bool) (sent last : Int) : DCaller := (ask, busy, sent, last, ())
theorem Tick_run (n : Nat) (ask : DPacket) (sent last now : Int) : rpc_Caller_Tick.f n (some (cal ask true sent last)) now =
    some (if 0 < sent ∧ (now < last ∨ IntKind.u64.wrap (now - last) < 4) then (some (cal ask true sent last), zeroP, false, ()) else (some (cal ask true (IntKind.i64.wrap (sent + 1)) now), ask, true, ())) := by
  simp only [rpc_Caller_Tick.f, rpc_Caller_Tick.j1, cal, optM, Option.bind_some, Bool.not_true, cond_false]
  by_cases c1 : 0 < sent
  · by_cases c2 : now < last
    · simp [c1, c2, zeroP]
    · by_cases c3 : IntKind.u64.wrap (now - last) < 4
      · simp [c1, c2, c3, zeroP]
      · simp [c1, c2, c3]
  · simp [c1]
theorem Busy_run (n : Nat) (ask : DPacket) (busy : Bool) (sent last : Int) : rpc_Caller_Busy.f n (some (cal ask busy sent last)) = some busy := rfl
theorem Down_run (n : Nat) (ask : DPacket) (busy : Bool) (sent last : Int) : rpc_Caller_Down.f n (some (cal ask busy sent last)) = some (busy && decide (5 < sent)) := by
  unfold rpc_Caller_Down.f
  rw [Busy_run]
  cases busy <;> rfl
/-! as the rows ask for them -/
end Go.Proofs.Ytpkpihcdbgckkaa.S
