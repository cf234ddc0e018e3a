import Derived.Test.YteoohihaibgplaaChQf
import Derived.Test.YteoohihaibgplaaChT
namespace Go.Proofs.Yteoohihaibgplaa
open Go.AV Go.RowKit
theorem CheckParts_true : CheckParts_law := by
  intro a0 a1 h0 h1
  refine CheckParts_plain (fun p hp => ?_) (fun p hp => ?_)
  · have := h0.2 p hp
    simp only [R_law15_Part_109, wfu8, wf64] at this
    unfold PtOk Rg
    omega
  · have := h1.2 p hp
    simp only [R_law20_Cell_112, wfu8, wf64] at this
    unfold ClOk Rg
    omega
end Go.Proofs.Yteoohihaibgplaa
