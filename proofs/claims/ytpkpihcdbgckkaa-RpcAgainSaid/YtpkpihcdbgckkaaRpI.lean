/- The laws of calls that play deeds, in plain words: each answers true. -/
import Derived.Test.YtpkpihcdbgckkaaRpH
set_option linter.unusedVariables false
set_option linter.unusedSimpArgs false
namespace Go.Proofs.Ytpkpihcdbgckkaa.S
open Go Go.Proofs Go.Proofs.Bw

theorem deed_wf {x : DDeed} (h : Ty.wf TDeed x) : DeedOk x := by
  obtain ⟨k, s, now, ⟨pk, f, t, ep, sq, bd, u'⟩, c, own, u⟩ := x
  obtain ⟨_, _, _, ⟨_, h1, h2, h3, h4, _⟩, h5, _⟩ := h
  exact ⟨⟨(u8_in.1 h1).1, (u8_in.1 h2).1, u32_in.1 h3, u32_in.1 h4⟩, (u8_in.1 h5).1⟩
theorem deeds_wf {z : Nm} {b : Bool} {l : List DDeed} (h : Ty.wf (.slB z b TDeed) l) : ∀ x ∈ l, DeedOk x := fun x hx => deed_wf (h.2 x hx)
theorem RpcPlays_pure (ds : List DDeed) (h : Ty.wf (.slB .U false TDeed) ds) : law11_RpcPlays.f 300000 ds = some true := by
  obtain ⟨n, hn⟩ : ∃ n, n = 300000 := ⟨_, rfl⟩
  rw [← hn]
  obtain ⟨q, l, last, I, hq, hp⟩ := play_run n (by omega) ds (deeds_wf h)
  have hs := same_run n (by omega) q l last I
  unfold law11_RpcPlays.f
  rw [hp]
  simp only [Option.bind_some, optM]
  rw [live_ok]
  simp only [Option.bind_some, cond_true]
  have hs' : law11_both_same.f n ((optmap (Ty.fzx TCaller) (X q l last).1), (optmap (Ty.fzx TCaller') (X q l last).2.1), (optmap (Ty.fzx TCallee) (X q l last).2.2.1), (optmap (Ty.fzx TCallee') (X q l last).2.2.2.1), ((X q l last).2.2.2.2.1.1, (X q l last).2.2.2.2.1.2.1, (X q l last).2.2.2.2.1.2.2.1, (X q l last).2.2.2.2.1.2.2.2.1, (X q l last).2.2.2.2.1.2.2.2.2.1, (X q l last).2.2.2.2.1.2.2.2.2.2.1, (X q l last).2.2.2.2.1.2.2.2.2.2.2), (X q l last).2.2.2.2.2) = some true := hs
  rw [hs']
  rfl
theorem forks_loop (n : Nat) (hn : 10 < n) (ds : List DDeed) (hd : ∀ x ∈ ds, DeedOk x) (q : Q) (l : List Dpast) (last : DPacket) (I : Inv2 q l last) : ∀ (k i : Nat) (q1 : Q) (l1 : List Dpast) (last1 : DPacket), Inv2 q1 l1 last1 → i ≤ 20 → 20 - i < k →
    law11_RpcForks.l3 n k ds (X q l last) (X q1 l1 last1) (i : Int) = some true
  | 0, i, q1, l1, last1, _, _, h => by omega
  | k + 1, i, q1, l1, last1, J, hi, h => by
    rw [law11_RpcForks.l3]
    by_cases hlt : i < ds.length ∧ i < 20
    · have hg : ds[i]? = some ds[i] := List.getElem?_eq_getElem hlt.1
      have hm : ds[i] ∈ ds := List.getElem_mem hlt.1
      generalize ds[i] = x at hg hm
      rw [decide_eq_true (show (i : Int) < (ds.length : Int) by omega), decide_eq_true (show (i : Int) < 20 by omega)]
      simp only [cond_true, Option.bind_some]
      rw [idxK_at (e := x) (by omega) (by simpa using hg)]
      obtain ⟨q2, l2, last2, J2, _, h1⟩ := do_run n q1 l1 last1 x J (hd x hm)
      have h2 := forks_loop n hn ds hd q l last I k (i + 1) q2 l2 last2 J2 (by omega) (by omega)
      have h1' : law11_both_do.f n ((X q1 l1 last1).1, (X q1 l1 last1).2.1, (X q1 l1 last1).2.2.1, (X q1 l1 last1).2.2.2.1, ((X q1 l1 last1).2.2.2.2.1.1, (X q1 l1 last1).2.2.2.2.1.2.1, (X q1 l1 last1).2.2.2.2.1.2.2.1, (X q1 l1 last1).2.2.2.2.1.2.2.2.1, (X q1 l1 last1).2.2.2.2.1.2.2.2.2.1, (X q1 l1 last1).2.2.2.2.1.2.2.2.2.2.1, (X q1 l1 last1).2.2.2.2.1.2.2.2.2.2.2), (X q1 l1 last1).2.2.2.2.2) (x.1, x.2.1, x.2.2.1, (x.2.2.2.1.1, x.2.2.2.1.2.1, x.2.2.2.1.2.2.1, x.2.2.2.1.2.2.2.1, x.2.2.2.1.2.2.2.2.1, x.2.2.2.1.2.2.2.2.2.1, x.2.2.2.1.2.2.2.2.2.2), x.2.2.2.2.1, x.2.2.2.2.2.1, x.2.2.2.2.2.2) = _ := h1
      rw [h1']
      simp only [Option.bind_some, Bool.not_true, cond_false, law11_RpcForks.j4]
      rw [i64_wrap (by omega) (by omega), show (i : Int) + 1 = ((i + 1 : Nat) : Int) by omega]
      exact h2
    · have : ((bif (decide ((i : Int) < (ds.length : Int))) then (some (decide ((i : Int) < (20 : Int)))) else some false) : Option Bool) = some false := by
        by_cases h1 : i < ds.length
        · rw [decide_eq_true (show (i : Int) < (ds.length : Int) by omega), decide_eq_false (show ¬ (i : Int) < 20 by omega)]; rfl
        · rw [decide_eq_false (show ¬ (i : Int) < (ds.length : Int) by omega)]; rfl
      rw [this]
      simp only [Option.bind_some, cond_false]
      have s1 := same_run n hn q l last I
      have s2 := same_run n hn q1 l1 last1 J
      have key : law11_RpcForks.j2 n (X q l last) (X q1 l1 last1) = (law11_both_same.f n (X q l last)).bind fun r1 => (bif r1 then ((law11_both_same.f n (X q1 l1 last1)).bind fun r3 => some r3) else some false).bind fun g2 => some g2 := rfl
      have key2 : law11_RpcForks.j2 n (X q l last) (X q1 l1 last1) = some true := by rw [key, s1, s2]; rfl
      exact key2
theorem RpcForks_pure (ds es : List DDeed) (h : Ty.wf (.slB .U false TDeed) ds) (h2 : Ty.wf (.slB .U false TDeed) es) : law11_RpcForks.f 300000 ds es = some true := by
  obtain ⟨n, hn⟩ : ∃ n, n = 300000 := ⟨_, rfl⟩
  rw [← hn]
  obtain ⟨q, l, last, I, hq, hp⟩ := play_run n (by omega) ds (deeds_wf h)
  have hl := forks_loop n (by omega) es (deeds_wf h2) q l last I n 0 q l0 last ⟨rfl, I.last, I.seq, inv0.past⟩ (by omega) (by omega)
  unfold law11_RpcForks.f
  rw [hp]
  simp only [Option.bind_some, optM]
  rw [live_ok]
  simp only [Option.bind_some, Bool.not_true, cond_false]
  exact hl
end Go.Proofs.Ytpkpihcdbgckkaa.S
