/-
  DERIVED. GIVEN WITH THE SEED: THE CARDS: each row of YthhegdifbnghpaaGreatDoorRows.lean that lists a variable, with what it lists TIED to the program's text (the seventh form; the later family's looks); each row that meets fmt, with fmt's text TOLD by the authors' own Lean function (tested against real Go, not proved from fmt's source: count such statements apart). THE CARD IS WHAT COUNTS. Prove the row's statement (the work); the ties are given (YthhegdifbnghpaaGreatDoorTie.lean); close each card by the builder's one call (the guide's Derived/Test/ToyasCard.lean, 'card_holds'). Laid BY PROGRAM, IN A SANDBOX (cutbox-door.mjs). By AI agents, Wed Nov 11 2026. No macro, syntax, notation, axiom, sorry.
-/
import Derived.Test.YthhegdifbnghpaaGreatDoorRows
import GoSem.ClaimSeven
namespace Go.Proofs.YthhegdifbnghpaaGreatDoor
namespace Rows

/-- THE TIED CARD OF 'estafettelaw15.DeskKeeps'. -/
def deskKeepsCard : Claim7 := { stood := { row := deskKeepsRow, standIns := [], harness := (true, "b604358c3ad008db60984e153b2caf98da6e13419076a77f775623cd4df76f1d"), looks := true }, kinds := [], alts := [], laidByText := true, laidKinds := [.data, .data, .data, .data, .sentinel, .sentinel, .pinned], laidTests := true, laidLooks := .later }
def DeskKeepsCardSaid : Prop := Claim7.holds Tryz.pinned (.plain (OpenSpec.ofChange deskKeepsSpec)) deskKeepsCard

/-- THE TIED CARD OF 'estafettelaw15.DeskVotes'. -/
def deskVotesCard : Claim7 := { stood := { row := deskVotesRow, standIns := [], harness := (true, "b604358c3ad008db60984e153b2caf98da6e13419076a77f775623cd4df76f1d"), looks := true }, kinds := [], alts := [], laidByText := true, laidKinds := [.data, .data, .data, .data, .sentinel, .sentinel, .pinned], laidTests := true, laidLooks := .later }
def DeskVotesCardSaid : Prop := Claim7.holds Tryz.pinned (.plain (OpenSpec.ofChange deskVotesSpec)) deskVotesCard

/-- THE TIED CARD OF 'estafettelaw15.DeskWants'. -/
def deskWantsCard : Claim7 := { stood := { row := deskWantsRow, standIns := [], harness := (true, "b604358c3ad008db60984e153b2caf98da6e13419076a77f775623cd4df76f1d"), looks := true }, kinds := [], alts := [], laidByText := true, laidKinds := [.data, .data, .data, .data, .sentinel, .sentinel, .pinned], laidTests := true, laidLooks := .later }
def DeskWantsCardSaid : Prop := Claim7.holds Tryz.pinned (.plain (OpenSpec.ofChange deskWantsSpec)) deskWantsCard

/-- THE TIED CARD OF 'estafettelaw15.DeskLast'. -/
def deskLastCard : Claim7 := { stood := { row := deskLastRow, standIns := [], harness := (true, "b604358c3ad008db60984e153b2caf98da6e13419076a77f775623cd4df76f1d"), looks := true }, kinds := [], alts := [], laidByText := true, laidKinds := [.data, .data, .data, .data, .sentinel, .sentinel, .pinned], laidTests := true, laidLooks := .later }
def DeskLastCardSaid : Prop := Claim7.holds Tryz.pinned (.plain (OpenSpec.ofChange deskLastSpec)) deskLastCard

/-- THE TIED CARD OF 'estafettelaw15.ShardClock'. -/
def shardClockCard : Claim7 := { stood := { row := shardClockRow, standIns := [], harness := (true, "b604358c3ad008db60984e153b2caf98da6e13419076a77f775623cd4df76f1d"), looks := true }, kinds := [], alts := [], laidByText := true, laidKinds := [.data, .data, .data, .data, .sentinel, .sentinel, .pinned], laidTests := true, laidLooks := .later }
def ShardClockCardSaid : Prop := Claim7.holds Tryz.pinned (.plain (OpenSpec.ofChange shardClockSpec)) shardClockCard

/-- THE TIED CARD OF 'estafettelaw15.ShardAlone'. -/
def shardAloneCard : Claim7 := { stood := { row := shardAloneRow, standIns := [], harness := (true, "b604358c3ad008db60984e153b2caf98da6e13419076a77f775623cd4df76f1d"), looks := true }, kinds := [], alts := [], laidByText := true, laidKinds := [.data, .data, .data, .data, .sentinel, .sentinel, .pinned], laidTests := true, laidLooks := .later }
def ShardAloneCardSaid : Prop := Claim7.holds Tryz.pinned (.plain (OpenSpec.ofChange shardAloneSpec)) shardAloneCard

/-- THE TIED CARD OF 'estafettelaw15.ShardTwins'. -/
def shardTwinsCard : Claim7 := { stood := { row := shardTwinsRow, standIns := [], harness := (true, "b604358c3ad008db60984e153b2caf98da6e13419076a77f775623cd4df76f1d"), looks := true }, kinds := [], alts := [], laidByText := true, laidKinds := [.data, .data, .data, .data, .sentinel, .sentinel, .pinned], laidTests := true, laidLooks := .later }
def ShardTwinsCardSaid : Prop := Claim7.holds Tryz.pinned (.plain (OpenSpec.ofChange shardTwinsSpec)) shardTwinsCard

/-- THE TIED CARD OF 'estafettelaw15.ShardElse'. -/
def shardElseCard : Claim7 := { stood := { row := shardElseRow, standIns := [], harness := (true, "b604358c3ad008db60984e153b2caf98da6e13419076a77f775623cd4df76f1d"), looks := true }, kinds := [], alts := [], laidByText := true, laidKinds := [.data, .data, .data, .data, .sentinel, .sentinel, .pinned], laidTests := true, laidLooks := .later }
def ShardElseCardSaid : Prop := Claim7.holds Tryz.pinned (.plain (OpenSpec.ofChange shardElseSpec)) shardElseCard

/-- THE TIED CARD OF 'estafettelaw14.VaultAll'. -/
def vaultAllCard : Claim7 := { stood := { row := vaultAllRow, standIns := [], harness := (true, "b604358c3ad008db60984e153b2caf98da6e13419076a77f775623cd4df76f1d"), looks := true }, kinds := [], alts := [], laidByText := true, laidKinds := [.data, .data, .data, .data, .sentinel, .sentinel, .pinned], laidTests := true, laidLooks := .later }
def VaultAllCardSaid : Prop := Claim7.holds Tryz.pinned (.plain (OpenSpec.ofChange vaultAllSpec)) vaultAllCard

/-- THE TIED CARD OF 'estafettelaw14.VaultPlain'. -/
def vaultPlainCard : Claim7 := { stood := { row := vaultPlainRow, standIns := [], harness := (true, "b604358c3ad008db60984e153b2caf98da6e13419076a77f775623cd4df76f1d"), looks := true }, kinds := [], alts := [], laidByText := true, laidKinds := [.data, .data, .data, .data, .sentinel, .sentinel, .pinned], laidTests := true, laidLooks := .later }
def VaultPlainCardSaid : Prop := Claim7.holds Tryz.pinned (.plain (OpenSpec.ofChange vaultPlainSpec)) vaultPlainCard

/-- THE TIED CARD OF 'estafettelaw14.VaultEq'. -/
def vaultEqCard : Claim7 := { stood := { row := vaultEqRow, standIns := [], harness := (true, "b604358c3ad008db60984e153b2caf98da6e13419076a77f775623cd4df76f1d"), looks := true }, kinds := [], alts := [], laidByText := true, laidKinds := [.data, .data, .data, .data, .sentinel, .sentinel, .pinned], laidTests := true, laidLooks := .later }
def VaultEqCardSaid : Prop := Claim7.holds Tryz.pinned (.plain (OpenSpec.ofChange vaultEqSpec)) vaultEqCard

/-- THE SECOND FORM's CARD OF 'estafettelaw15.DeskKeeps'. -/
def deskKeepsUptoCard : Claim7 := { stood := { row := deskKeepsUptoRow, standIns := [], harness := (true, "b604358c3ad008db60984e153b2caf98da6e13419076a77f775623cd4df76f1d"), looks := true }, kinds := [], alts := [], laidByText := true, laidKinds := [.data, .data, .data, .data, .sentinel, .sentinel, .pinned], laidTests := true, laidLooks := .later }
def DeskKeepsUptoCardSaid : Prop := Claim7.holds Tryz.pinned (.plain (OpenSpec.upto deskKeepsSpec)) deskKeepsUptoCard

/-- THE SECOND FORM's CARD OF 'estafettelaw15.DeskVotes'. -/
def deskVotesUptoCard : Claim7 := { stood := { row := deskVotesUptoRow, standIns := [], harness := (true, "b604358c3ad008db60984e153b2caf98da6e13419076a77f775623cd4df76f1d"), looks := true }, kinds := [], alts := [], laidByText := true, laidKinds := [.data, .data, .data, .data, .sentinel, .sentinel, .pinned], laidTests := true, laidLooks := .later }
def DeskVotesUptoCardSaid : Prop := Claim7.holds Tryz.pinned (.plain (OpenSpec.upto deskVotesSpec)) deskVotesUptoCard

/-- THE SECOND FORM's CARD OF 'estafettelaw15.DeskWants'. -/
def deskWantsUptoCard : Claim7 := { stood := { row := deskWantsUptoRow, standIns := [], harness := (true, "b604358c3ad008db60984e153b2caf98da6e13419076a77f775623cd4df76f1d"), looks := true }, kinds := [], alts := [], laidByText := true, laidKinds := [.data, .data, .data, .data, .sentinel, .sentinel, .pinned], laidTests := true, laidLooks := .later }
def DeskWantsUptoCardSaid : Prop := Claim7.holds Tryz.pinned (.plain (OpenSpec.upto deskWantsSpec)) deskWantsUptoCard

/-- THE SECOND FORM's CARD OF 'estafettelaw15.DeskLast'. -/
def deskLastUptoCard : Claim7 := { stood := { row := deskLastUptoRow, standIns := [], harness := (true, "b604358c3ad008db60984e153b2caf98da6e13419076a77f775623cd4df76f1d"), looks := true }, kinds := [], alts := [], laidByText := true, laidKinds := [.data, .data, .data, .data, .sentinel, .sentinel, .pinned], laidTests := true, laidLooks := .later }
def DeskLastUptoCardSaid : Prop := Claim7.holds Tryz.pinned (.plain (OpenSpec.upto deskLastSpec)) deskLastUptoCard

/-- THE SECOND FORM's CARD OF 'estafettelaw15.ShardClock'. -/
def shardClockUptoCard : Claim7 := { stood := { row := shardClockUptoRow, standIns := [], harness := (true, "b604358c3ad008db60984e153b2caf98da6e13419076a77f775623cd4df76f1d"), looks := true }, kinds := [], alts := [], laidByText := true, laidKinds := [.data, .data, .data, .data, .sentinel, .sentinel, .pinned], laidTests := true, laidLooks := .later }
def ShardClockUptoCardSaid : Prop := Claim7.holds Tryz.pinned (.plain (OpenSpec.upto shardClockSpec)) shardClockUptoCard

/-- THE SECOND FORM's CARD OF 'estafettelaw15.ShardAlone'. -/
def shardAloneUptoCard : Claim7 := { stood := { row := shardAloneUptoRow, standIns := [], harness := (true, "b604358c3ad008db60984e153b2caf98da6e13419076a77f775623cd4df76f1d"), looks := true }, kinds := [], alts := [], laidByText := true, laidKinds := [.data, .data, .data, .data, .sentinel, .sentinel, .pinned], laidTests := true, laidLooks := .later }
def ShardAloneUptoCardSaid : Prop := Claim7.holds Tryz.pinned (.plain (OpenSpec.upto shardAloneSpec)) shardAloneUptoCard

/-- THE SECOND FORM's CARD OF 'estafettelaw15.ShardTwins'. -/
def shardTwinsUptoCard : Claim7 := { stood := { row := shardTwinsUptoRow, standIns := [], harness := (true, "b604358c3ad008db60984e153b2caf98da6e13419076a77f775623cd4df76f1d"), looks := true }, kinds := [], alts := [], laidByText := true, laidKinds := [.data, .data, .data, .data, .sentinel, .sentinel, .pinned], laidTests := true, laidLooks := .later }
def ShardTwinsUptoCardSaid : Prop := Claim7.holds Tryz.pinned (.plain (OpenSpec.upto shardTwinsSpec)) shardTwinsUptoCard

/-- THE SECOND FORM's CARD OF 'estafettelaw15.ShardElse'. -/
def shardElseUptoCard : Claim7 := { stood := { row := shardElseUptoRow, standIns := [], harness := (true, "b604358c3ad008db60984e153b2caf98da6e13419076a77f775623cd4df76f1d"), looks := true }, kinds := [], alts := [], laidByText := true, laidKinds := [.data, .data, .data, .data, .sentinel, .sentinel, .pinned], laidTests := true, laidLooks := .later }
def ShardElseUptoCardSaid : Prop := Claim7.holds Tryz.pinned (.plain (OpenSpec.upto shardElseSpec)) shardElseUptoCard

/-- THE SECOND FORM's CARD OF 'estafettelaw14.VaultAll'. -/
def vaultAllUptoCard : Claim7 := { stood := { row := vaultAllUptoRow, standIns := [], harness := (true, "b604358c3ad008db60984e153b2caf98da6e13419076a77f775623cd4df76f1d"), looks := true }, kinds := [], alts := [], laidByText := true, laidKinds := [.data, .data, .data, .data, .sentinel, .sentinel, .pinned], laidTests := true, laidLooks := .later }
def VaultAllUptoCardSaid : Prop := Claim7.holds Tryz.pinned (.plain (OpenSpec.upto vaultAllSpec)) vaultAllUptoCard

/-- THE SECOND FORM's CARD OF 'estafettelaw14.VaultPlain'. -/
def vaultPlainUptoCard : Claim7 := { stood := { row := vaultPlainUptoRow, standIns := [], harness := (true, "b604358c3ad008db60984e153b2caf98da6e13419076a77f775623cd4df76f1d"), looks := true }, kinds := [], alts := [], laidByText := true, laidKinds := [.data, .data, .data, .data, .sentinel, .sentinel, .pinned], laidTests := true, laidLooks := .later }
def VaultPlainUptoCardSaid : Prop := Claim7.holds Tryz.pinned (.plain (OpenSpec.upto vaultPlainSpec)) vaultPlainUptoCard

/-- THE SECOND FORM's CARD OF 'estafettelaw14.VaultEq'. -/
def vaultEqUptoCard : Claim7 := { stood := { row := vaultEqUptoRow, standIns := [], harness := (true, "b604358c3ad008db60984e153b2caf98da6e13419076a77f775623cd4df76f1d"), looks := true }, kinds := [], alts := [], laidByText := true, laidKinds := [.data, .data, .data, .data, .sentinel, .sentinel, .pinned], laidTests := true, laidLooks := .later }
def VaultEqUptoCardSaid : Prop := Claim7.holds Tryz.pinned (.plain (OpenSpec.upto vaultEqSpec)) vaultEqUptoCard
end Rows
end Go.Proofs.YthhegdifbnghpaaGreatDoor
