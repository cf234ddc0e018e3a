import Derived.Test.YtkmehmgocelkiaaDoorValueLawsT
import Derived.Test.YtkmehmgocelkiaaDoorVpD
namespace Go.Proofs.YtkmehmgocelkiaaDoor
open Go.AV
theorem ValueLaws_true : ValueLaws_law := fun z h => by
  obtain ⟨⟨h1, _, _⟩, ⟨h2, _, _⟩, h3, h4⟩ := h
  have a := wfu8.1 h1
  have b := wfu8.1 h2
  exact ValueLaws_plain ⟨a.1, a.2, b.1, b.2, wf64.1 h3, wf64.1 h4⟩
end Go.Proofs.YtkmehmgocelkiaaDoor
