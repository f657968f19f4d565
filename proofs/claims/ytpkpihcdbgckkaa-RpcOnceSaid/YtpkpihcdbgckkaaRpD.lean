/- Callers: the given one and the document's answer the same. -/
import Derived.Test.YtpkpihcdbgckkaaRpC
set_option linter.unusedVariables false
set_option linter.unusedSimpArgs false
namespace Go.Proofs.Ytpkpihcdbgckkaa.S
open Go Go.Proofs Go.Proofs.Bw

/-- number, body, busy, sent, last -/
abbrev Q : Type := Int × List Int × Bool × Int × Int
def cA (q : Q) : DCaller := ((1, 2, 0, 3, q.1, q.2.1, ()), q.2.2.1, q.2.2.2.1, q.2.2.2.2, ())
def cB (q : Q) : DCaller' := (2, 3, q.1, q.2.2.1, q.2.1, q.2.2.2.1, q.2.2.2.2, ())
def Nn (p : DPacket) : Prop := 0 ≤ p.2.1 ∧ 0 ≤ p.2.2.1 ∧ 0 ≤ p.2.2.2.2.1
theorem rRight_run (n : Nat) (p : DPacket) (h : Nn p) : r03_Right.f n p = some (rightB p) := by
  obtain ⟨k, f, t, e, q, b, u⟩ := p
  obtain ⟨h1, h2, h3⟩ := h
  simp only at h1 h2 h3
  simp only [r03_Right.f, rightB]
  have e1 : decide (1 ≤ f) = !decide (f = 0) := by by_cases hh : f = 0 <;> simp [hh] <;> omega
  have e2 : decide (1 ≤ t) = !decide (t = 0) := by by_cases hh : t = 0 <;> simp [hh] <;> omega
  have e3 : decide (0 < q) = !decide (q = 0) := by by_cases hh : q = 0 <;> simp [hh] <;> omega
  have e4 : decide (f ≤ 3) = !decide (3 < f) := by by_cases hh : 3 < f <;> simp [hh] <;> omega
  have e5 : decide (t ≤ 3) = !decide (3 < t) := by by_cases hh : 3 < t <;> simp [hh] <;> omega
  have e6 : decide ((b.length : Int) ≤ 16384) = !decide ((16384 : Int) < b.length) := by by_cases hh : (16384 : Int) < b.length <;> simp [hh] <;> omega
  have x1 : decide (f = 0) = true → decide (3 < f) = false := fun hh => by have := of_decide_eq_true hh; simp; omega
  have x2 : decide (t = 0) = true → decide (3 < t) = false := fun hh => by have := of_decide_eq_true hh; simp; omega
  have x3 : decide (k = 1) = true → decide (k = 2) = false := fun hh => by have := of_decide_eq_true hh; simp; omega
  rw [e1, e2, e3, e4, e5, e6]
  clear e1 e2 e3 e4 e5 e6
  generalize decide (f = 0) = a1 at *
  generalize decide (t = 0) = a2 at *
  generalize decide (q = 0) = a3 at *
  generalize decide (3 < f) = a4 at *
  generalize decide (3 < t) = a5 at *
  generalize decide ((16384 : Int) < b.length) = a6 at *
  generalize decide (k = 1) = a7 at *
  generalize decide (k = 2) = a8 at *
  cases a3 <;> cases a6 <;> cases a4 <;> cases a5 <;> cases a1 <;> cases a2 <;> cases a7 <;> cases a8 <;> first | rfl | (exact absurd (x1 rfl) (by decide)) | (exact absurd (x2 rfl) (by decide)) | (exact absurd (x3 rfl) (by decide))
def callO (q : Q) (s : List Int) : Q × Int :=
  if q.2.2.1 = true then (q, 13) else if (16384 : Int) < s.length then (q, 3) else if q.1 = 4294967295 then (q, 2) else ((IntKind.u32.wrap (q.1 + 1), s, true, 0, 0), 0)
theorem Call_A (n : Nat) (q : Q) (s : List Int) : rpc_Caller_Call.f n (some (cA q)) s = some (some (cA (callO q s).1), (callO q s).2) := by
  obtain ⟨a, b, c, d, e⟩ := q
  simp only [rpc_Caller_Call.f, rpc_Caller_Call.j1, cA, optM, callO]
  cases c with
  | true => rfl
  | false =>
    by_cases h1 : (16384 : Int) < s.length
    · simp [h1]
    · by_cases h2 : a = 4294967295
      · subst h2; simp [h1]
      · simp [h1, h2]
theorem Call_B (n : Nat) (q : Q) (s : List Int) : r11_Caller_Call.f n (some (cB q)) s = some (some (cB (callO q s).1), (callO q s).2) := by
  obtain ⟨a, b, c, d, e⟩ := q
  simp only [r11_Caller_Call.f, r11_Caller_Call.j1, cB, optM, callO]
  cases c with
  | true => rfl
  | false =>
    by_cases h1 : (16384 : Int) < s.length
    · simp [h1]
    · by_cases h2 : a = 4294967295
      · subst h2; simp [h1]
      · simp [h1, h2]
def tickO (q : Q) (now : Int) : Q × DPacket × Bool :=
  if q.2.2.1 = false ∨ (0 < q.2.2.2.1 ∧ (now < q.2.2.2.2 ∨ IntKind.u64.wrap (now - q.2.2.2.2) < 4)) then (q, zeroP, false) else ((q.1, q.2.1, q.2.2.1, IntKind.i64.wrap (q.2.2.2.1 + 1), now), (1, 2, 0, 3, q.1, q.2.1, ()), true)
theorem Tick_A (n : Nat) (q : Q) (now : Int) : rpc_Caller_Tick.f n (some (cA q)) now = some (some (cA (tickO q now).1), (tickO q now).2.1, (tickO q now).2.2, ()) := by
  obtain ⟨a, b, c, d, e⟩ := q
  simp only [rpc_Caller_Tick.f, rpc_Caller_Tick.j1, cA, optM, tickO, Option.bind_some]
  cases c with
  | false => rfl
  | true =>
    by_cases c1 : 0 < d
    · by_cases c2 : now < e
      · simp [c1, c2, zeroP]
      · by_cases c3 : IntKind.u64.wrap (now - e) < 4
        · simp [c1, c2, c3, zeroP]
        · simp [c1, c2, c3]
    · simp [c1]
theorem Tick_B (n : Nat) (q : Q) (now : Int) : r11_Caller_Tick.f n (some (cB q)) now = some (some (cB (tickO q now).1), (tickO q now).2.1, (tickO q now).2.2, ()) := by
  obtain ⟨a, b, c, d, e⟩ := q
  simp only [r11_Caller_Tick.f, cB, optM, tickO, Option.bind_some]
  cases c with
  | false => rfl
  | true =>
    by_cases c1 : 0 < d
    · by_cases c2 : now < e
      · simp [c1, c2, zeroP]
      · by_cases c3 : IntKind.u64.wrap (now - e) < 4
        · simp [c1, c2, c3, zeroP]
        · simp [c1, c2, c3]
    · simp [c1]
def takeO (q : Q) (p : DPacket) : Q × List Int × Bool :=
  if (q.2.2.1 && rightB p && decide (p.1 = 2) && decide (p.2.2.1 = 2) && decide (p.2.2.2.1 = 3) && decide (p.2.2.2.2.1 = q.1)) = true then ((q.1, q.2.1, false, q.2.2.2.1, q.2.2.2.2), p.2.2.2.2.2.1, true) else (q, [], false)
theorem right_from {p : DPacket} (h : rightB p = true) (h2 : p.1 = 2) : p.2.1 = 0 := by
  simp only [rightB, Bool.and_eq_true, Bool.or_eq_true, decide_eq_true_eq] at h
  omega
theorem CTake_A (n : Nat) (q : Q) (p : DPacket) : rpc_Caller_Take.f n (some (cA q)) p = some (some (cA (takeO q p).1), (takeO q p).2.1, (takeO q p).2.2, ()) := by
  obtain ⟨a, b, c, d, e⟩ := q
  have hf := right_from (p := p)
  obtain ⟨k, f, t, ep, sq, bd, u⟩ := p
  have hb : ∀ (x : DCaller), rpc_Caller_Busy.f n (some x) = some x.2.1 := fun x => rfl
  simp only [rpc_Caller_Take.f, rpc_Caller_Take.j1, cA, optM, takeO, Option.bind_some, hb, Right_run]
  cases c with
  | false => rfl
  | true =>
    cases hr : rightB (k, f, t, ep, sq, bd, ()) with
    | false => simp [hr]
    | true =>
      simp only [eqI, eqS]
      by_cases h1 : k = 2
      · subst h1
        have hf0 : f = 0 := hf hr rfl
        subst hf0
        by_cases h2 : t = 2
        · by_cases h3 : ep = 3
          · by_cases h4 : sq = a
            · simp [hr, h2, h3, h4]
            · simp [hr, h2, h3, h4]
          · simp [hr, h2, h3]
        · simp [hr, h2]
      · simp [hr, h1]
theorem CTake_B (n : Nat) (q : Q) (p : DPacket) (hp : Nn p) : r11_Caller_Take.f n (some (cB q)) p = some (some (cB (takeO q p).1), (takeO q p).2.1, (takeO q p).2.2, ()) := by
  obtain ⟨a, b, c, d, e⟩ := q
  obtain ⟨k, f, t, ep, sq, bd, u⟩ := p
  simp only [r11_Caller_Take.f, cB, optM, takeO, Option.bind_some, rRight_run n _ hp]
  cases c with
  | false => rfl
  | true =>
    cases hr : rightB (k, f, t, ep, sq, bd, ()) with
    | false => simp [hr]
    | true =>
      by_cases h1 : k = 2 <;> by_cases h2 : t = 2 <;> by_cases h3 : ep = 3 <;> by_cases h4 : sq = a <;> simp [hr, h1, h2, h3, h4]
def canO (q : Q) : Q × Int := if q.2.2.1 = true then ((q.1, q.2.1, false, q.2.2.2.1, q.2.2.2.2), 0) else (q, 5)
theorem Cancel_A (n : Nat) (q : Q) : rpc_Caller_Cancel.f n (some (cA q)) = some (some (cA (canO q).1), (canO q).2) := by
  obtain ⟨a, b, c, d, e⟩ := q
  cases c <;> rfl
theorem Cancel_B (n : Nat) (q : Q) : r11_Caller_Cancel.f n (some (cB q)) = some (some (cB (canO q).1), (canO q).2) := by
  obtain ⟨a, b, c, d, e⟩ := q
  cases c <;> rfl
end Go.Proofs.Ytpkpihcdbgckkaa.S
