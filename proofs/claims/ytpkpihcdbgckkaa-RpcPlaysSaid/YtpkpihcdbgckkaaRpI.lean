/- The laws of calls that play deeds, in plain words: each answers true. -/
import Derived.Test.YtpkpihcdbgckkaaRpH
set_option linter.unusedVariables false
set_option linter.unusedSimpArgs false
namespace Go.Proofs.Ytpkpihcdbgckkaa.S
open Go Go.Proofs Go.Proofs.Bw

theorem deed_wf {x : DDeed} (h : Ty.wf TDeed x) : DeedOk x := by
  obtain ⟨k, s, now, ⟨pk, f, t, ep, sq, bd, u'⟩, c, own, u⟩ := x
  obtain ⟨_, _, _, ⟨_, h1, h2, h3, h4, _⟩, h5, _⟩ := h
  exact ⟨⟨(u8_in.1 h1).1, (u8_in.1 h2).1, u32_in.1 h3, u32_in.1 h4⟩, (u8_in.1 h5).1⟩
theorem deeds_wf {z : Nm} {b : Bool} {l : List DDeed} (h : Ty.wf (.slB z b TDeed) l) : ∀ x ∈ l, DeedOk x := fun x hx => deed_wf (h.2 x hx)
theorem RpcPlays_pure (ds : List DDeed) (h : Ty.wf (.slB .U false TDeed) ds) : law11_RpcPlays.f 300000 ds = some true := by
  obtain ⟨n, hn⟩ : ∃ n, n = 300000 := ⟨_, rfl⟩
  rw [← hn]
  obtain ⟨q, l, last, I, hp⟩ := play_run n (by omega) ds (deeds_wf h)
  have hs := same_run n (by omega) q l last I
  unfold law11_RpcPlays.f
  rw [hp]
  simp only [Option.bind_some, optM]
  rw [live_ok]
  simp only [Option.bind_some, cond_true]
  have hs' : law11_both_same.f n ((optmap (Ty.fzx TCaller) (X q l last).1), (optmap (Ty.fzx TCaller') (X q l last).2.1), (optmap (Ty.fzx TCallee) (X q l last).2.2.1), (optmap (Ty.fzx TCallee') (X q l last).2.2.2.1), ((X q l last).2.2.2.2.1.1, (X q l last).2.2.2.2.1.2.1, (X q l last).2.2.2.2.1.2.2.1, (X q l last).2.2.2.2.1.2.2.2.1, (X q l last).2.2.2.2.1.2.2.2.2.1, (X q l last).2.2.2.2.1.2.2.2.2.2.1, (X q l last).2.2.2.2.1.2.2.2.2.2.2), (X q l last).2.2.2.2.2) = some true := hs
  rw [hs']
  rfl
end Go.Proofs.Ytpkpihcdbgckkaa.S
