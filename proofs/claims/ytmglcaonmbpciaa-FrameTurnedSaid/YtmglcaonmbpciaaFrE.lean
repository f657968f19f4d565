/- Frames: the laws, as the rows ask for them. -/
import Derived.Test.YtmglcaonmbpciaaFrD
set_option linter.unusedVariables false
set_option linter.unusedSimpArgs false
namespace Go.Proofs.Ytmglcaonmbpciaa.S
open Go Go.Proofs Go.Proofs.Bw

theorem bytes_wf {l : List Int} (h : Ty.wf (.slB .U false (.int .u8)) l) : ∀ x ∈ l, isB x := by
  have h2 : allL (Ty.wf (.int .u8)) l := h.2
  intro x hx
  exact u8_in.1 (h2 x hx)
theorem Pwf_wf {p : DPacket} (h : Ty.wf TPacket p) : Pwf p := by
  obtain ⟨h1, h2, h3, h4, h5, h6, _⟩ := h
  exact ⟨u8_in.1 h1, u8_in.1 h2, u8_in.1 h3, u32_in.1 h4, u32_in.1 h5, fun x hx => u8_in.1 (h6.2 x hx)⟩
theorem FrameBack_pure (p : DPacket) (b : List Int) (hp : Ty.wf TPacket p) (hb : Ty.wf (.slB .U false (.int .u8)) b) : law03_FrameBack.f 300000 p b = some true :=
  FrameBack_law _ p b (Pwf_wf hp) (bytes_wf hb) (by decide)
theorem FrameEnds_pure (p : DPacket) (m : Int) (b : List Int) (hp : Ty.wf TPacket p) (hm : Ty.wf (.int .u16) m) (hb : Ty.wf (.slB .U false (.int .u8)) b) : law03_FrameEnds.f 300000 p m b = some true :=
  FrameEnds_law _ p m b (Pwf_wf hp) (u16_in.1 hm) (bytes_wf hb) (by decide)
end Go.Proofs.Ytmglcaonmbpciaa.S
