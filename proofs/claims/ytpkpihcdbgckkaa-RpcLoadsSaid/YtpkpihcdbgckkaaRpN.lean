/- RpcLoads: a callee of bytes, or the error; its bytes are they. -/
import Derived.Test.YtpkpihcdbgckkaaRpM
set_option linter.unusedVariables false
set_option linter.unusedSimpArgs false
namespace Go.Proofs.Ytpkpihcdbgckkaa.S
open Go Go.Proofs Go.Proofs.Bw

def run3 (b : List Int) : Option (List Dpast) :=
  match stepP b with
  | none => none
  | some p => match stepP p.2 with
    | none => none
    | some q => match stepP q.2 with
      | none => none
      | some r => if (0 : Int) < (r.2.length : Int) then none else some [p.1, q.1, r.1]
theorem LoadA_run (n : Nat) (hn : 20 < n) (b : List Int) (hb : Byt b) : rpc_LoadCallee.f n b = some (match run3 b with
      | none => (none, 3, ())
      | some l => (some (l, ()), 0, ())) := by
  unfold rpc_LoadCallee.f rpc_NewCallee.f
  simp only [Option.bind_some]
  obtain ⟨k, hk⟩ : ∃ m, n = m + 4 := ⟨n - 4, by omega⟩
  show rpc_LoadCallee.l2 n n b ([z0, z0, z0], ()) () ((0 : Nat) : Int) = _
  conv => lhs; arg 2; rw [hk]
  rw [LoadA_step n (k + 3) (by omega) b hb _ rfl 0 (by decide) rfl]
  unfold run3
  cases h1 : stepP b with
  | none => rfl
  | some p =>
    have g1 := (stepP_enc hb h1).2.2
    simp only []
    rw [LoadA_step n (k + 2) (by omega) p.2 g1 _ rfl 1 (by decide) rfl]
    cases h2 : stepP p.2 with
    | none => rfl
    | some q =>
      have g2 := (stepP_enc g1 h2).2.2
      simp only []
      rw [LoadA_step n (k + 1) (by omega) q.2 g2 _ rfl 2 (by decide) rfl]
      cases h3 : stepP q.2 with
      | none => rfl
      | some r =>
        simp only []
        rw [rpc_LoadCallee.l2, show decide (((2 + 1 : Nat) : Int) < 3) = false from rfl, cond_false, rpc_LoadCallee.j1]
        by_cases h4 : (0 : Int) < (r.2.length : Int)
        · rw [decide_eq_true h4, cond_true, if_pos h4]
        · rw [decide_eq_false h4, cond_false, if_neg h4]
          rfl
theorem LoadB_run (n : Nat) (hn : 20 < n) (b : List Int) (hb : Byt b) : r11_LoadCallee.f n b = some (match run3 b with
      | none => (none, 3, ())
      | some l => (some (z0 :: l, ()), 0, ())) := by
  unfold r11_LoadCallee.f r11_NewCallee.f
  simp only [Option.bind_some]
  obtain ⟨k, hk⟩ : ∃ m, n = m + 12 := ⟨n - 12, by omega⟩
  show r11_LoadCallee.l2 n n (b, false, ()) (z0 :: [z0, z0, z0], ()) ((0 + 1 : Nat) : Int) = _
  conv => lhs; arg 2; rw [hk]
  rw [LoadB_step n (k + 11) (by omega) (by omega) b hb _ rfl 0 (by decide) rfl]
  unfold run3
  cases h1 : stepP b with
  | none => rfl
  | some p =>
    have g1 := (stepP_enc hb h1).2.2
    simp only []
    rw [LoadB_step n (k + 10) (by omega) (by omega) p.2 g1 _ rfl 1 (by decide) rfl]
    cases h2 : stepP p.2 with
    | none => rfl
    | some q =>
      have g2 := (stepP_enc g1 h2).2.2
      simp only []
      rw [LoadB_step n (k + 9) (by omega) (by omega) q.2 g2 _ rfl 2 (by decide) rfl]
      cases h3 : stepP q.2 with
      | none => rfl
      | some r =>
        simp only []
        rw [r11_LoadCallee.l2, show decide (((2 + 2 : Nat) : Int) ≤ 3) = false from rfl, cond_false, r11_LoadCallee.j1]
        simp only [cond_false, Option.bind_some]
        by_cases h4 : (0 : Int) < (r.2.length : Int)
        · rw [decide_eq_false (show ¬ (r.2.length : Int) = 0 by omega), if_pos h4]
          rfl
        · rw [decide_eq_true (show (r.2.length : Int) = 0 by omega), if_neg h4]
          rfl
theorem BytesA_run (n : Nat) (hn : 10 < n) (a b c : Dpast) (pa : Past a) (pb : Past b) (pc : Past c) : rpc_Callee_Bytes.f n (some ([a, b, c], ())) = some (((([] : List Int) ++ encP a) ++ encP b) ++ encP c) := by
  have la := encP_len pa
  have lb := encP_len pb
  obtain ⟨k, hk⟩ : ∃ k, n = k + 5 := ⟨n - 5, by omega⟩
  show rpc_Callee_Bytes.l2 n n ([] : List Int) [a, b, c] ((0 : Nat) : Int) = _
  conv => lhs; arg 2; rw [hk]
  rw [BytesA_step n (k + 4) _ _ 0 a rfl (by decide) pa (by simp), BytesA_step n (k + 3) _ _ 1 b rfl (by decide) pb (by simp; omega), BytesA_step n (k + 2) _ _ 2 c rfl (by decide) pc (by simp; omega), rpc_Callee_Bytes.l2]
  rfl
theorem run3_enc {b : List Int} (hb : Byt b) {l : List Dpast} (h : run3 b = some l) : ∃ x y z, l = [x, y, z] ∧ Past x ∧ Past y ∧ Past z ∧ ((([] : List Int) ++ encP x) ++ encP y) ++ encP z = b := by
  unfold run3 at h
  cases h1 : stepP b with
  | none => rw [h1] at h; cases h
  | some p =>
    obtain ⟨e1, p1, g1⟩ := stepP_enc hb h1
    rw [h1] at h
    simp only [] at h
    cases h2 : stepP p.2 with
    | none => rw [h2] at h; cases h
    | some q =>
      obtain ⟨e2, p2, g2⟩ := stepP_enc g1 h2
      rw [h2] at h
      simp only [] at h
      cases h3 : stepP q.2 with
      | none => rw [h3] at h; cases h
      | some r =>
        obtain ⟨e3, p3, g3⟩ := stepP_enc g2 h3
        rw [h3] at h
        simp only [] at h
        split at h
        · cases h
        · rename_i h4
          injection h with h
          refine ⟨p.1, q.1, r.1, h.symm, p1, p2, p3, ?_⟩
          have hr : r.2 = [] := List.eq_nil_of_length_eq_zero (by omega)
          rw [e1, e2, e3, hr]
          simp
theorem take_at (p : DPacket) : ∃ i : Nat, i < 3 ∧ (p.1 = 1 → rightB p = true → p.2.1 = (i : Int) + 1) := by
  by_cases h : p.1 = 1 ∧ rightB p = true
  · obtain ⟨h1, h2⟩ := h
    have : 1 ≤ p.2.1 ∧ p.2.1 ≤ 3 := by
      unfold rightB at h2
      simp only [Bool.and_eq_true, Bool.or_eq_true, decide_eq_true_eq, h1] at h2
      omega
    exact ⟨(p.2.1 - 1).toNat, by omega, fun _ _ => by omega⟩
  · exact ⟨0, by decide, fun h1 h2 => (h ⟨h1, h2⟩).elim⟩
theorem bbeq_self (b : Bool) : bbeq b b = true := by cases b <;> rfl
theorem loads_j1 (n : Nat) (hn : 20 < n) (b : List Int) (hb : Byt b) (p : DPacket) (hp : Nn p) : law11_RpcLoads.j1 n b p = some true := by
  unfold law11_RpcLoads.j1
  rw [LoadA_run n hn b hb, LoadB_run n hn b hb]
  simp only [Option.bind_some]
  cases h : run3 b with
  | none =>
    simp only [show decide ((3 : Int) = 0) = false from rfl, Bool.not_false, cond_true, Option.bind_some, optM, live_ok, decide_true]
  | some l =>
    obtain ⟨x, y, z, rfl, p1, p2, p3, he⟩ := run3_enc hb h
    simp only [decide_true, Bool.not_true, cond_false, Option.bind_some, optM]
    rw [BytesA_run n (by omega) x y z p1 p2 p3, he]
    simp only [Option.bind_some, decide_true, Bool.not_true, cond_false]
    obtain ⟨i, hi3, hi⟩ := take_at p
    obtain ⟨e, hl⟩ : ∃ e, ([x, y, z] : List Dpast)[i]? = some e := ⟨_, List.getElem?_eq_getElem (by simpa using hi3)⟩
    unfold law11_RpcLoads.j2
    have t1 : rpc_Callee_Take.f n (some ([x, y, z], ())) (p.1, p.2.1, p.2.2.1, p.2.2.2.1, p.2.2.2.2.1, p.2.2.2.2.2.1, p.2.2.2.2.2.2) = some (takeC [x, y, z] i e p) := Take_run n _ i e p hi hi3 hl
    have t2 : r11_Callee_Take.f n (some (z0 :: [x, y, z], ())) (p.1, p.2.1, p.2.2.1, p.2.2.2.1, p.2.2.2.2.1, p.2.2.2.2.2.1, p.2.2.2.2.2.2) = some (mB (takeC [x, y, z] i e p).1, (takeC [x, y, z] i e p).2) := STake_B n _ i e p hp hi hi3 hl
    have t3 : ∃ m u, (takeC [x, y, z] i e p).1 = some (m, u) := by
      unfold takeC
      split
      · split
        · exact ⟨_, _, rfl⟩
        · split <;> exact ⟨_, _, rfl⟩
      · exact ⟨_, _, rfl⟩
    obtain ⟨m, u, t3⟩ := t3
    simp only [optM]
    rw [t1]
    simp only [Option.bind_some, t3]
    rw [t2]
    simp only [Option.bind_some, t3, mB, live_ok, decide_true, cond_true, bbeq_self, eqI, eqS, Bool.and_self]
theorem RpcLoads_pure (b : List Int) (p : DPacket) (h0 : Ty.wf (.slB .U false (.int .u8)) b) (h1 : Ty.wf TPacket p) : law11_RpcLoads.f 300000 b p = some true := by
  have hb : Byt b := fun x hx => by
    have := u8_in.1 (h0.2 x hx)
    exact this
  have hp : Nn p := by
    obtain ⟨pk, f, t, ep, sq, bd, u⟩ := p
    obtain ⟨_, h1, h2, h3, h4, _⟩ := h1
    exact ⟨(u8_in.1 h1).1, (u8_in.1 h2).1, (u32_in.1 h4).1⟩
  unfold law11_RpcLoads.f
  by_cases h : (50000 : Int) < (b.length : Int)
  · rw [decide_eq_true h, cond_true, sliceK_in (by omega) (by omega) (by omega)]
    exact loads_j1 _ (by decide) _ (hb.take _) p hp
  · rw [decide_eq_false h, cond_false]
    exact loads_j1 _ (by decide) _ hb p hp
end Go.Proofs.Ytpkpihcdbgckkaa.S
