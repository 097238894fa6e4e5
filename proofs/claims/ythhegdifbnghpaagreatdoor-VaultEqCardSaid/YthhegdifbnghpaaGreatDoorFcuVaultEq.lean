/- VaultEq: the closed facts of its row, together. -/
import Derived.Test.YthhegdifbnghpaaGreatDoorFctVaultEq
set_option linter.unusedSimpArgs false
set_option linter.unusedVariables false
namespace Go.Proofs.YthhegdifbnghpaaGreatDoor.vaultEq
open Go

set_option maxRecDepth 100000 in
theorem facts : joinedFacts Tryz.pinned.checked.prog 13 Tryz.f13 (OpenSpec.ofChange Rows.vaultEqSpec).bare Rows.vaultEqRow = true := by
  unfold joinedFacts
  simp only [Bool.and_eq_true]
  exact ⟨⟨⟨⟨⟨⟨⟨⟨⟨⟨⟨⟨⟨⟨⟨⟨⟨⟨⟨⟨⟨⟨⟨⟨⟨⟨⟨⟨⟨⟨⟨a1, Fcts.b2⟩, Fcts.b3⟩, a4⟩, a5⟩, a6⟩, Fcts.b7⟩, a8⟩, Fcts.b9⟩, g1⟩, g2⟩, g3⟩, g4⟩, a14⟩, a15⟩, a16⟩, a17⟩, a17b⟩, a18⟩, a19⟩, a20⟩, a21⟩, a22⟩, a23⟩, Fcts.b24⟩, Fcts.b25⟩, a24b⟩, a24c⟩, a25⟩, a26⟩, a27⟩, a28⟩

end Go.Proofs.YthhegdifbnghpaaGreatDoor.vaultEq
