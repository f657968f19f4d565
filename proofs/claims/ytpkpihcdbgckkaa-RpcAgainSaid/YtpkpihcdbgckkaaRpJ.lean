/- What was answered is answered the same, in plain words: each answers true. -/
import Derived.Test.YtpkpihcdbgckkaaRpI
set_option linter.unusedVariables false
set_option linter.unusedSimpArgs false
namespace Go.Proofs.Ytpkpihcdbgckkaa.S
open Go Go.Proofs Go.Proofs.Bw

theorem again_right {sq : Int} {s : List Int} (h1 : 1 ≤ sq) (hl : s.length ≤ 2000) : rightB (1, 2, 0, 3, sq, s, ()) = true := by
  unfold rightB
  simp
  omega
theorem again_right2 {sq : Int} {s : List Int} (h1 : 1 ≤ sq) (hl : s.length ≤ 2000) : rightB (2, 0, 2, 3, sq, 114 :: s, ()) = true := by
  unfold rightB
  simp
  omega
def lA (sq : Int) (s : List Int) : List Dpast := [z0, (2, 3, sq, 114 :: s, ()), z0]
def bothA (sq : Int) (s : List Int) (x : DBoth) : DBoth := (some (cA (sq, s, true, 1, 0)), x.2)
theorem again_end (n : Nat) (sq : Int) (s : List Int) (x : DBoth) (h1 : 1 ≤ sq) (hl : s.length ≤ 2000) : law11_RpcAgain.j4 n s (bothA sq s x) true s true (2, 0, 2, 3, sq, 114 :: s, ()) 0 = some true := by
  have t1 := CTake_A n (sq, s, true, 1, 0) (2, 0, 2, 3, sq, 114 :: s, ())
  have e1 : takeO (sq, s, true, 1, 0) (2, 0, 2, 3, sq, 114 :: s, ()) = ((sq, s, false, 1, 0), 114 :: s, true) := by
    unfold takeO
    rw [again_right2 h1 hl]
    simp
  rw [e1] at t1
  have t2 := CTake_A n (sq, s, false, 1, 0) (2, 0, 2, 3, sq, 114 :: s, ())
  have e2 : takeO (sq, s, false, 1, 0) (2, 0, 2, 3, sq, 114 :: s, ()) = ((sq, s, false, 1, 0), [], false) := rfl
  rw [e2] at t2
  have hb : ∀ (y : DCaller), rpc_Caller_Busy.f n (some y) = some y.2.1 := fun y => rfl
  simp only [cA] at t1 t2
  have hm : maxLen = 9223372036854775807 := rfl
  unfold law11_RpcAgain.j4
  simp only [bothA, cA, optM]
  rw [t1]
  simp only [Option.bind_some]
  rw [t2]
  simp only [Option.bind_some, cond_true, decide_true]
  rw [leK_in (by simp only [List.length_cons, List.length_nil]; omega)]
  simp [hb]
theorem again_loop (n : Nat) (sq : Int) (s : List Int) (m : Int) (hm0 : 0 ≤ m) (hm1 : m < 256) (x : DBoth) (h1 : 1 ≤ sq) (hl : s.length ≤ 2000) : ∀ (k i : Nat), (i : Int) ≤ m % 6 → 6 - i < k →
    law11_RpcAgain.l5 n k s m (bothA sq s x) (1, 2, 0, 3, sq, s, ()) true (lA sq s, ()) s true (2, 0, 2, 3, sq, 114 :: s, ()) 0 (i : Int) = some true
  | 0, i, _, h => by omega
  | k + 1, i, hi, h => by
    rw [law11_RpcAgain.l5, nzK_in (by decide), i64_wrap (by omega) (by omega), Int.tmod_eq_emod_of_nonneg hm0]
    by_cases hlt : (i : Int) < m % 6
    · have ht := Take_run n (lA sq s) 1 (2, 3, sq, 114 :: s, ()) (1, 2, 0, 3, sq, s, ()) (fun _ _ => rfl) (by decide) rfl
      have e1 : takeC (lA sq s) 1 (2, 3, sq, 114 :: s, ()) (1, 2, 0, 3, sq, s, ()) = (some (lA sq s, ()), [], false, (2, 0, 2, 3, sq, 114 :: s, ()), true, ()) := by
        unfold takeC
        rw [if_pos ⟨rfl, again_right h1 hl⟩, if_neg (by simp), if_pos ⟨rfl, rfl, rfl⟩]
      rw [e1] at ht
      rw [decide_eq_true hlt, cond_true, ht]
      simp only [Option.bind_some, cond_false, Bool.not_true, eqI, eqS, decide_true, Bool.true_and, law11_RpcAgain.j6]
      rw [i64_wrap (by omega) (by omega), show (i : Int) + 1 = ((i + 1 : Nat) : Int) by omega]
      exact again_loop n sq s m hm0 hm1 x h1 hl k (i + 1) (by omega) (by omega)
    · rw [decide_eq_false hlt, cond_false]
      exact again_end n sq s x h1 hl
theorem again_three (n : Nat) (hn : 20 < n) (sq : Int) (s : List Int) (m : Int) (hm0 : 0 ≤ m) (hm1 : m < 256) (x : DBoth) (h1 : 1 ≤ sq) (hl : s.length ≤ 2000) :
    law11_RpcAgain.j3 n s m (some (cA (sq, s, true, 0, 0)), x.2) = some true := by
  have t1 := Tick_A n (sq, s, true, 0, 0) 0
  have e1 : tickO (sq, s, true, 0, 0) 0 = ((sq, s, true, 1, 0), (1, 2, 0, 3, sq, s, ()), true) := by
    unfold tickO
    rw [if_neg (by simp)]
    rfl
  rw [e1] at t1
  have t2 := Take_run n l0 1 z0 (1, 2, 0, 3, sq, s, ()) (fun _ _ => rfl) (by decide) rfl
  have e2 : takeC l0 1 z0 (1, 2, 0, 3, sq, s, ()) = (some ([z0, (1, 3, sq, [], ()), z0], ()), s, true, zeroP, false, ()) := by
    unfold takeC
    rw [if_pos ⟨rfl, again_right h1 hl⟩, if_pos (.inl rfl)]
    rfl
  rw [e2] at t2
  have t3 := Reply_A n [z0, (1, 3, sq, [], ()), z0] 1 (1, 3, sq, [], ()) 2 (114 :: s) (by decide) (fun _ _ => rfl) (by decide) rfl
  have e3 : replyO [z0, (1, 3, sq, [], ()), z0] 1 (1, 3, sq, [], ()) 2 (114 :: s) = (lA sq s, (2, 0, 2, 3, sq, 114 :: s, ()), 0) := by
    unfold replyO
    rw [if_neg (by decide), if_neg (by simp), if_neg (by simp; omega)]
    rfl
  rw [e3] at t3
  have hm : maxLen = 9223372036854775807 := rfl
  have hl5 := again_loop n sq s m hm0 hm1 x h1 hl n 0 (by omega) (by omega)
  have hnew : rpc_NewCallee.f n = some (l0, ()) := rfl
  simp only [cA] at t1
  unfold law11_RpcAgain.j3
  simp only [cA, optM]
  rw [t1]
  simp only [Option.bind_some]
  rw [hnew]
  simp only [Option.bind_some]
  rw [t2]
  simp only [Option.bind_some]
  rw [leK_in (by simp only [List.length_cons, List.length_nil]; omega)]
  have t3' : rpc_Callee_Reply.f n (some ([z0, (1, 3, sq, [], ()), z0], ())) 2 ([114] ++ s) = _ := t3
  rw [t3']
  simp only [Option.bind_some]
  exact hl5
theorem again_two (n : Nat) (hn : 20 < n) (q : Q) (l : List Dpast) (last : DPacket) (s : List Int) (m : Int) (hm0 : 0 ≤ m) (hm1 : m < 256) (I : Inv2 q l last) (hq : q.1 ≤ 60) (hl : s.length ≤ 2000) :
    law11_RpcAgain.j2 n s m (some (X q l last)) = some true := by
  obtain ⟨a, b, b1, d, e⟩ := q
  have hq' : a ≤ 60 := hq
  have ha : U32 a := I.seq
  have t1 := Cancel_A n (a, b, b1, d, e)
  have hc : (canO (a, b, b1, d, e)).1 = (a, b, false, d, e) := by cases b1 <;> rfl
  rw [hc] at t1
  have t2 := Call_A n (a, b, false, d, e) s
  have e2 : callO (a, b, false, d, e) s = ((a + 1, s, true, 0, 0), 0) := by
    unfold callO
    have h1 : ¬ (16384 : Int) < s.length := by omega
    have h2 : ¬ a = 4294967295 := by omega
    have h3 : IntKind.u32.wrap (a + 1) = a + 1 := by rw [u32_wrap]; have := ha.1; omega
    simp [h1, h2, h3]
  rw [e2] at t2
  have h3 := again_three n hn (a + 1) s m hm0 hm1 (X (a, b, b1, d, e) l last) (by have := ha.1; omega) hl
  generalize (canO (a, b, b1, d, e)).2 = er at t1
  obtain ⟨k0, f0, t0, ep0, sq0, bd0, u0⟩ := last
  unfold law11_RpcAgain.j2
  simp only [X, cA, optM] at t1 t2 h3 ⊢
  rw [t1]
  simp only [Option.bind_some]
  rw [t2]
  simp only [Option.bind_some, decide_true, Bool.not_true, cond_false]
  exact h3
theorem RpcAgain_pure (ds : List DDeed) (s : List Int) (m : Int) (h : Ty.wf (.slB .U false TDeed) ds) (h1 : Ty.wf .str s) (h2 : Ty.wf (.int .u8) m) : law11_RpcAgain.f 300000 ds s m = some true := by
  obtain ⟨n, hn⟩ : ∃ n, n = 300000 := ⟨_, rfl⟩
  rw [← hn]
  obtain ⟨hm0, hm1⟩ := u8_in.1 h2
  obtain ⟨q, l, last, I, hq, hp⟩ := play_run n (by omega) ds (deeds_wf h)
  unfold law11_RpcAgain.f
  rw [hp]
  simp only [Option.bind_some, optM]
  rw [live_ok]
  simp only [Option.bind_some, Bool.not_true, cond_false]
  have key : law11_RpcAgain.j1 n s m (some (X q l last)) = some true := by
    unfold law11_RpcAgain.j1
    by_cases hl : (2000 : Int) < (s.length : Int)
    · rw [decide_eq_true hl, cond_true, sliceK_in (by omega) (by omega) (by omega)]
      have e : cut s 0 (2000 : Int) = s.take 2000 := by unfold cut; rfl
      rw [e]
      exact again_two n (by omega) q l last _ m hm0 hm1 I hq (by simp; omega)
    · rw [decide_eq_false hl, cond_false]
      exact again_two n (by omega) q l last _ m hm0 hm1 I hq (by omega)
  exact key
end Go.Proofs.Ytpkpihcdbgckkaa.S
