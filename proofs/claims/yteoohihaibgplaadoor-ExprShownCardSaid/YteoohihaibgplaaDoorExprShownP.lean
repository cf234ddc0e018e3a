import Derived.Test.YteoohihaibgplaaDoorExprShownT
import Derived.Test.YteoohihaibgplaaDoorEpH
namespace Go.Proofs.YteoohihaibgplaaDoor
open Go.AV
theorem ptok {p : Pt} (h : R_law15_Part_65 p) : PtOk p := by
  obtain ⟨h1, h2, h3, h4, h5, _⟩ := h
  have a := wfu8.1 h1
  have b := wfu8.1 h2
  have c := wfu8.1 h3
  have d := wfu8.1 h4
  have e := wf64.1 h5
  exact ⟨a.1, a.2, b.1, b.2, c.1, c.2, d.1, d.2, e⟩
theorem ExprShown_true : ExprShown_law := fun _ _ h0 h1 => ExprShown_plain (fun p hp => ptok (h0.2 p hp)) (fun p hp => ptok (h1.2 p hp))
end Go.Proofs.YteoohihaibgplaaDoor
