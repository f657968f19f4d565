/- Calls: what the functions of the layer answer, in plain words. -/
import Derived.Test.YtpkpihcdbgckkaaSFn
import Derived.Test.YtpkpihcdbgckkaaBw4
set_option linter.unusedVariables false
set_option linter.unusedSimpArgs false
namespace Go.Proofs.Ytpkpihcdbgckkaa.S
open Go Go.Proofs Go.Proofs.Bw

theorem live_ok (n : Nat) : law11_live.f n = some true := by kernel_rfl
def rightB (p : DPacket) : Bool :=
  ((decide (p.1 = 1) && decide (p.2.2.1 = 0) && decide (1 ≤ p.2.1) && decide (p.2.1 ≤ 3)) || (decide (p.1 = 2) && decide (p.2.1 = 0) && decide (1 ≤ p.2.2.1) && decide (p.2.2.1 ≤ 3))) &&
    decide (0 < p.2.2.2.2.1) && decide ((p.2.2.2.2.2.1.length : Int) ≤ 16384)
theorem Right_run (n : Nat) (p : DPacket) : frame_Right.f n p = some (rightB p) := by
  obtain ⟨k, f, t, e, q, b, u⟩ := p
  simp only [frame_Right.f, frame_Right.j1, rightB]
  by_cases h1 : k = 1
  · subst h1
    by_cases h2 : t = 0
    · subst h2
      cases hd1 : decide ((1 : Int) ≤ f) <;> cases hd2 : decide (f ≤ (3 : Int)) <;> cases hd3 : decide ((0 : Int) < q) <;> simp_all
    · simp [h2]
  · by_cases h2 : k = 2
    · subst h2
      by_cases h3 : f = 0
      · subst h3
        cases hd1 : decide ((1 : Int) ≤ t) <;> cases hd2 : decide (t ≤ (3 : Int)) <;> cases hd3 : decide ((0 : Int) < q) <;> simp_all
      · simp [h3]
    · simp [h1, h2]
theorem RpcNone_law (n : Nat) (a0 : DDeed) (a1 : Int) (h : 0 ≤ a1) : law11_RpcNone.f n a0 a1 = some true := by
  have e : law11_RpcNone.f n a0 a1 = ((rpc_NewCaller.f n a1 (1 : Int)).bind fun r29 => (bif (decide (a1 < (1 : Int))) then some true else (some (decide ((3 : Int) < a1)))).bind fun g30 =>
    some (bbeq (Option.isNone r29) g30)).bind fun g28 => some g28 := by kernel_rfl
  rw [e]
  unfold rpc_NewCaller.f
  by_cases h0 : a1 = 0
  · subst h0; rfl
  · have h1 : ¬ a1 < 1 := by omega
    by_cases h3 : 3 < a1
    · simp [h0, h1, h3, bbeq]
    · simp [h0, h1, h3, bbeq]
theorem lnth_at {α : Type} {l : List α} {i : Int} {j : Nat} {e : α} (hi : i = (j : Int)) (h : l[j]? = some e) : lnth l i = some e := by
  subst hi; simpa [lnth] using h
theorem inK'_in {R : Type} {i : Int} {n : Nat} {K : Option R} (h0 : 0 ≤ i) (h1 : i < (n : Int)) : inK' i n K = K := by simp [inK', h0, h1]
def zeroP : DPacket := (0, 0, 0, 0, 0, [], ())
/-- a callee takes a packet of client i + 1 -/
def takeC (l : List Dpast) (i : Nat) (e : Dpast) (p : DPacket) : (Option DCallee) × ((List Int) × Bool × DPacket × Bool × Unit) :=
  if p.1 = 1 ∧ rightB p = true then
    (if e.1 = 0 ∨ e.2.1 < p.2.2.2.1 ∨ (p.2.2.2.1 = e.2.1 ∧ e.2.2.1 < p.2.2.2.2.1) then (some (l.set i (1, p.2.2.2.1, p.2.2.2.2.1, [], ()), ()), p.2.2.2.2.2.1, true, zeroP, false, ())
     else if e.1 = 2 ∧ p.2.2.2.1 = e.2.1 ∧ p.2.2.2.2.1 = e.2.2.1 then (some (l, ()), [], false, (2, 0, p.2.1, e.2.1, e.2.2.1, e.2.2.2.1, ()), true, ())
     else (some (l, ()), [], false, zeroP, false, ()))
  else (some (l, ()), [], false, zeroP, false, ())
theorem Take_run (n : Nat) (l : List Dpast) (i : Nat) (e : Dpast) (p : DPacket) (hi : p.1 = 1 → rightB p = true → p.2.1 = (i : Int) + 1) (hi3 : i < 3) (he : l[i]? = some e) : rpc_Callee_Take.f n (some (l, ())) p = some (takeC l i e p) := by
  obtain ⟨k, f, t, ep, q, b, u⟩ := p
  simp only [rpc_Callee_Take.f, optM, Option.bind_some, Right_run]
  unfold takeC
  by_cases h1 : k = 1
  · by_cases h2 : rightB (k, f, t, ep, q, b, u) = true
    · have hf : f = (i : Int) + 1 := hi h1 h2
      have hw : IntKind.u8.wrap (f - 1) = (i : Int) := by rw [u8_wrap]; omega
      simp only [h1, hw] at h2 ⊢
      rw [inK'_in (by omega) (by omega), lnth_at rfl he]
      obtain ⟨s, ee, qq, bb, uu⟩ := e
      simp only [Option.bind_some, rpc_past_answer.f, h2, decide_true, Bool.not_true, cond_false, if_true, lset, Int.toNat_natCast, true_and]
      by_cases c1 : s = 0
      · subst c1; by_cases c2 : ep = ee <;> by_cases c3 : q = qq <;> simp [c2, c3, zeroP]
      · by_cases c2 : ee < ep
        · have : ep ≠ ee := by omega
          simp [c1, c2, this, zeroP]
        · by_cases c3 : ep = ee
          · subst c3
            by_cases c4 : qq < q
            · have : q ≠ qq := by omega
              simp [c1, c4, this, zeroP]
            · by_cases c5 : q = qq
              · subst c5
                by_cases c6 : s = 2
                · subst c6; simp [zeroP]
                · simp [c1, c6, zeroP]
              · simp [c1, c4, c5, zeroP]
          · simp [c1, c2, c3, zeroP]
    · simp only [Bool.not_eq_true] at h2
      simp [h1, h2, zeroP]
      subst h1; simp [h2]
  · simp [h1, zeroP]
theorem RpcOlder_law (n : Nat) (x0 x1 y0 y1 : Int) (hx0 : 0 ≤ x0) (hx1 : 0 ≤ x1) (hy0 : 0 ≤ y0) (hy1 : 0 ≤ y1) : law11_RpcOlder.f n [x0, x1] [y0, y1] = some true := by
  unfold law11_RpcOlder.f rpc_NewCallee.f
  simp only [Option.bind_some, inK'_in (show (0 : Int) ≤ 0 by decide) (show (0 : Int) < ((2 : Nat) : Int) by decide), inK'_in (show (0 : Int) ≤ 1 by decide) (show (1 : Int) < ((2 : Nat) : Int) by decide),
    lnth_at (l := [x0, x1]) (i := 0) (j := 0) rfl rfl, lnth_at (l := [x0, x1]) (i := 1) (j := 1) rfl rfl, lnth_at (l := [y0, y1]) (i := 0) (j := 0) rfl rfl, lnth_at (l := [y0, y1]) (i := 1) (j := 1) rfl rfl, live_ok]
  rw [Take_run n _ 0 (0, 0, 0, [], ()) _ (fun _ _ => rfl) (by decide) rfl]
  by_cases c0 : y0 = 0
  · subst c0
    simp only [takeC, rightB, Option.bind_some]
    simp
    rw [Take_run n _ 0 (0, 0, 0, [], ()) _ (fun _ _ => rfl) (by decide) rfl]
    by_cases c1 : y1 = 0
    · subst c1; simp [takeC, rightB, zeroP, bbeq]
      cases decide (x0 < x1) <;> cases decide (x1 = x0) <;> rfl
    · have : 0 < y1 := by omega
      simp [takeC, rightB, zeroP, bbeq, this, c1]
      cases decide (x0 < x1) <;> cases decide (x1 = x0) <;> rfl
  · have h0 : 0 < y0 := by omega
    simp [takeC, rightB, h0, c0, bbeq]
    rw [Take_run n _ 0 (1, x0, y0, [], ()) _ (fun _ _ => rfl) (by decide) rfl]
    by_cases c1 : y1 = 0
    · subst c1; simp [takeC, rightB, zeroP, bbeq]
      cases decide (x0 < x1) <;> cases decide (x1 = x0) <;> rfl
    · have h1 : 0 < y1 := by omega
      by_cases d1 : x0 < x1
      · simp [takeC, rightB, zeroP, bbeq, h1, c1, d1]
      · by_cases d2 : x1 = x0
        · subst d2
          by_cases d3 : y0 < y1
          · simp [takeC, rightB, zeroP, bbeq, h1, c1, d3]
          · simp [takeC, rightB, zeroP, bbeq, h1, c1, d3, c0]
        · simp [takeC, rightB, zeroP, bbeq, h1, c1, d1, d2, c0]

/-! RpcWaits -/
def cal (ask : DPacket) (busy : Bool) (sent last : Int) : DCaller := (ask, busy, sent, last, ())
theorem Tick_run (n : Nat) (ask : DPacket) (sent last now : Int) : rpc_Caller_Tick.f n (some (cal ask true sent last)) now =
    some (if 0 < sent ∧ (now < last ∨ IntKind.u64.wrap (now - last) < 4) then (some (cal ask true sent last), zeroP, false, ()) else (some (cal ask true (IntKind.i64.wrap (sent + 1)) now), ask, true, ())) := by
  simp only [rpc_Caller_Tick.f, rpc_Caller_Tick.j1, cal, optM, Option.bind_some, Bool.not_true, cond_false]
  by_cases c1 : 0 < sent
  · by_cases c2 : now < last
    · simp [c1, c2, zeroP]
    · by_cases c3 : IntKind.u64.wrap (now - last) < 4
      · simp [c1, c2, c3, zeroP]
      · simp [c1, c2, c3]
  · simp [c1]
theorem Busy_run (n : Nat) (ask : DPacket) (busy : Bool) (sent last : Int) : rpc_Caller_Busy.f n (some (cal ask busy sent last)) = some busy := rfl
theorem Down_run (n : Nat) (ask : DPacket) (busy : Bool) (sent last : Int) : rpc_Caller_Down.f n (some (cal ask busy sent last)) = some (busy && decide (5 < sent)) := by
  unfold rpc_Caller_Down.f
  rw [Busy_run]
  cases busy <;> rfl
theorem waits_loop (n : Nat) (ask : DPacket) (xs : List Int) (hx : ∀ x ∈ xs, 0 ≤ x ∧ x < 256) : ∀ (d k : Nat) (i : Nat) (now last many : Int), 40 - i = d → d < k → 0 ≤ now → now ≤ 7 * i → 0 ≤ last → last ≤ now → 0 ≤ many → many ≤ i →
    law11_RpcWaits.l3 n k xs (some (cal ask true many last)) now last many (i : Int) = some true := by
  intro d
  induction d with
  | zero =>
    intro k i now last many hd hk h1 h2 h3 h4 h5 h6
    obtain ⟨k, rfl⟩ : ∃ m, k = m + 1 := ⟨k - 1, by omega⟩
    simp only [law11_RpcWaits.l3]
    have c : ¬ (i : Int) < 40 := by omega
    simp only [c, decide_false]
    cases decide ((i : Int) < (xs.length : Int)) <;> simp [law11_RpcWaits.j2, live_ok]
  | succ d ih =>
    intro k i now last many hd hk h1 h2 h3 h4 h5 h6
    obtain ⟨k, rfl⟩ : ∃ m, k = m + 1 := ⟨k - 1, by omega⟩
    simp only [law11_RpcWaits.l3]
    by_cases c0 : (i : Int) < (xs.length : Int)
    · have c : (i : Int) < 40 := by omega
      obtain ⟨e, he⟩ : ∃ e, xs[i]? = some e := ⟨xs[i]'(by omega), List.getElem?_eq_getElem (by omega)⟩
      have hr := hx e (List.mem_of_getElem? he)
      rw [idxK_at (by omega) (by simpa using he), nzK_in (by decide)]
      have hm : IntKind.u64.wrap (Int.tmod e 7) = e % 7 := by
        rw [Int.tmod_eq_emod_of_nonneg hr.1, u64_wrap]
        omega
      have hnow : IntKind.u64.wrap (now + e % 7) = now + e % 7 := by rw [u64_wrap]; omega
      have hsub : IntKind.u64.wrap (now + e % 7 - last) = now + e % 7 - last := by rw [u64_wrap]; omega
      simp only [hm, hnow, hsub, c0, c, decide_true, cond_true, Option.bind_some, optM]
      have hT := Tick_run n ask many last (now + e % 7)
      rw [hsub] at hT
      have key : ∀ (s l m : Int), 0 ≤ s → s ≤ i + 1 → 0 ≤ l → l ≤ now + e % 7 → m = s → law11_RpcWaits.j6 n (law11_RpcWaits.l3 n k) xs (some (cal ask true s l)) (now + e % 7) l m (i : Int) = some true := by
        intro s l m g1 g2 g3 g4 g5
        subst g5
        have hi : IntKind.i64.wrap ((i : Int) + 1) = ((i + 1 : Nat) : Int) := by rw [i64_wrap (by omega) (by omega)]; omega
        have hd := Down_run n ask true m l
        have hb := Busy_run n ask true m l
        simp only [cal] at hd hb
        simp only [law11_RpcWaits.j6, cal, optM, hd, hb, Option.bind_some, law11_RpcWaits.j4, hi]
        have := ih k (i + 1) (now + e % 7) l m (by omega) (by omega) (by omega) (by omega) g3 g4 g1 (by omega)
        simp only [cal] at this
        cases hc : decide (5 < m) <;> (simp only [Bool.true_and, bbeq, Bool.not_true, Bool.not_false, cond_true, cond_false, Option.bind_some]; exact this)
      by_cases c1 : many = 0
      · subst c1
        have e1 : ¬ (0 : Int) < 0 := by omega
        rw [if_neg (fun h => e1 h.1)] at hT
        simp only [cal] at hT
        simp only [cal, hT, Option.bind_some, decide_true, cond_true, bbeq, Bool.not_true, cond_false, law11_RpcWaits.j5]
        have := key (IntKind.i64.wrap ((0 : Int) + 1)) (now + e % 7) (IntKind.i64.wrap ((0 : Int) + 1)) (by rw [i64_wrap (by omega) (by omega)]; omega) (by rw [i64_wrap (by omega) (by omega)]; omega) (by omega) (by omega) rfl
        simpa only [cal] using this
      · have hpos : 0 < many := by omega
        have c1' : decide (many = 0) = false := by simpa using c1
        by_cases c2 : now + e % 7 - last < 4
        · rw [if_pos ⟨hpos, .inr c2⟩] at hT
          simp only [cal] at hT
          have c3 : decide (4 ≤ now + e % 7 - last) = false := by simpa using c2
          simp only [cal, hT, Option.bind_some, c1', c3, cond_false, bbeq, Bool.not_false, Bool.not_true, law11_RpcWaits.j5]
          have := key many last many (by omega) (by omega) h3 (by omega) rfl
          simpa only [cal] using this
        · rw [if_neg (fun h => by rcases h.2 with h | h <;> omega)] at hT
          simp only [cal] at hT
          have c3 : decide (4 ≤ now + e % 7 - last) = true := by simp; omega
          simp only [cal, hT, Option.bind_some, c1', c3, cond_true, cond_false, bbeq, Bool.not_true, law11_RpcWaits.j5]
          have hw : IntKind.i64.wrap (many + 1) = many + 1 := by rw [i64_wrap (by omega) (by omega)]
          have := key (IntKind.i64.wrap (many + 1)) (now + e % 7) (IntKind.i64.wrap (many + 1)) (by rw [hw]; omega) (by rw [hw]; omega) (by omega) (by omega) rfl
          simpa only [cal] using this
    · simp [c0, law11_RpcWaits.j2, live_ok]
theorem RpcWaits_law (n : Nat) (xs : List Int) (hx : ∀ x ∈ xs, 0 ≤ x ∧ x < 256) (hn : 50 ≤ n) : law11_RpcWaits.f n xs = some true := by
  have e : law11_RpcWaits.f n xs = law11_RpcWaits.l3 n n xs (some (cal (1, 3, 0, 1, 1, [120], ()) true 0 0)) 0 0 0 0 := by kernel_rfl
  rw [e]
  exact waits_loop n _ xs hx 40 n 0 0 0 0 rfl (by omega) (by omega) (by omega) (by omega) (by omega) (by omega) (by omega)

/-! as the rows ask for them -/
theorem RpcNone_pure (a0 : DDeed) (a1 : Int) (h0 : Ty.wf TDeed a0) (h1 : Ty.wf (.int .u8) a1) : law11_RpcNone.f 300000 a0 a1 = some true := RpcNone_law _ a0 a1 (u8_in.1 h1).1
theorem RpcWaits_pure (xs : List Int) (h : Ty.wf (.slB .U false (.int .u8)) xs) : law11_RpcWaits.f 300000 xs = some true := by
  have h2 : allL (Ty.wf (.int .u8)) xs := h.2
  exact RpcWaits_law _ xs (fun x hx => u8_in.1 (h2 x hx)) (by decide)
theorem RpcOlder_pure (a0 a1 : List Int) (h0 : Ty.wf (.arr 2 (.int .u32)) a0) (h1 : Ty.wf (.arr 2 (.int .u32)) a1) : law11_RpcOlder.f 300000 a0 a1 = some true := by
  obtain ⟨k0, w0⟩ := h0
  obtain ⟨k1, w1⟩ := h1
  match a0, k0, w0, a1, k1, w1 with
  | [x0, x1], _, w0, [y0, y1], _, w1 =>
    have f0 : ∀ x ∈ [x0, x1], 0 ≤ x := fun x hx => (u32_in.1 (show inK .u32 x from w0 x hx)).1
    have f1 : ∀ x ∈ [y0, y1], 0 ≤ x := fun x hx => (u32_in.1 (show inK .u32 x from w1 x hx)).1
    exact RpcOlder_law _ x0 x1 y0 y1 (f0 x0 (by simp)) (f0 x1 (by simp)) (f1 y0 (by simp)) (f1 y1 (by simp))
end Go.Proofs.Ytpkpihcdbgckkaa.S
