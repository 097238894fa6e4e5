/-
  DERIVED. GIVEN WITH THE SEED: THE CARDS: each row of YtldjlkbjbkielaaGreatDoorRows.lean that lists a variable, with what it lists TIED to the program's text (the seventh form; the later family's looks); each row that meets fmt, with fmt's text TOLD by the authors' own Lean function (tested against real Go, not proved from fmt's source: count such statements apart). THE CARD IS WHAT COUNTS. Prove the row's statement (the work); the ties are given (YtldjlkbjbkielaaGreatDoorTie.lean); close each card by the builder's one call (the guide's Derived/Test/ToyasCard.lean, 'card_holds'). Laid BY PROGRAM, IN A SANDBOX (cutbox-door.mjs). By AI agents, Wed Nov 11 2026. No macro, syntax, notation, axiom, sorry.
-/
import Derived.Test.YtldjlkbjbkielaaGreatDoorRows
import GoSem.ClaimSeven
namespace Go.Proofs.YtldjlkbjbkielaaGreatDoor
namespace Rows

/-- THE TIED CARD OF 'estafettelaw14.VaultAll'. -/
def vaultAllCard : Claim7 := { stood := { row := vaultAllRow, standIns := [], harness := (true, "5f3148809e0aadf2bfbe1d2a756f8489a7d0a62bea09aacaa136f6ed011554a7"), looks := true }, kinds := [], alts := [], laidByText := true, laidKinds := [.data, .data, .data, .data, .sentinel, .sentinel, .pinned], laidTests := true, laidLooks := .later }
def VaultAllCardSaid : Prop := Claim7.holds Tryz.pinned (.plain (OpenSpec.ofChange vaultAllSpec)) vaultAllCard

/-- THE TIED CARD OF 'estafettelaw14.VaultPlain'. -/
def vaultPlainCard : Claim7 := { stood := { row := vaultPlainRow, standIns := [], harness := (true, "5f3148809e0aadf2bfbe1d2a756f8489a7d0a62bea09aacaa136f6ed011554a7"), looks := true }, kinds := [], alts := [], laidByText := true, laidKinds := [.data, .data, .data, .data, .sentinel, .sentinel, .pinned], laidTests := true, laidLooks := .later }
def VaultPlainCardSaid : Prop := Claim7.holds Tryz.pinned (.plain (OpenSpec.ofChange vaultPlainSpec)) vaultPlainCard

/-- THE TIED CARD OF 'estafettelaw14.VaultAgain'. -/
def vaultAgainCard : Claim7 := { stood := { row := vaultAgainRow, standIns := [], harness := (true, "5f3148809e0aadf2bfbe1d2a756f8489a7d0a62bea09aacaa136f6ed011554a7"), looks := true }, kinds := [], alts := [], laidByText := true, laidKinds := [.data, .data, .data, .data, .sentinel, .sentinel, .pinned], laidTests := true, laidLooks := .later }
def VaultAgainCardSaid : Prop := Claim7.holds Tryz.pinned (.plain (OpenSpec.ofChange vaultAgainSpec)) vaultAgainCard

/-- THE TIED CARD OF 'estafettelaw14.VaultOwn'. -/
def vaultOwnCard : Claim7 := { stood := { row := vaultOwnRow, standIns := [], harness := (true, "5f3148809e0aadf2bfbe1d2a756f8489a7d0a62bea09aacaa136f6ed011554a7"), looks := true }, kinds := [], alts := [], laidByText := true, laidKinds := [.data, .data, .data, .data, .sentinel, .sentinel, .pinned], laidTests := true, laidLooks := .later }
def VaultOwnCardSaid : Prop := Claim7.holds Tryz.pinned (.plain (OpenSpec.ofChange vaultOwnSpec)) vaultOwnCard

/-- THE TIED CARD OF 'estafettelaw14.VaultLocks'. -/
def vaultLocksCard : Claim7 := { stood := { row := vaultLocksRow, standIns := [], harness := (true, "5f3148809e0aadf2bfbe1d2a756f8489a7d0a62bea09aacaa136f6ed011554a7"), looks := true }, kinds := [], alts := [], laidByText := true, laidKinds := [.data, .data, .data, .data, .sentinel, .sentinel, .pinned], laidTests := true, laidLooks := .later }
def VaultLocksCardSaid : Prop := Claim7.holds Tryz.pinned (.plain (OpenSpec.ofChange vaultLocksSpec)) vaultLocksCard

/-- THE TIED CARD OF 'estafettelaw14.VaultFull'. -/
def vaultFullCard : Claim7 := { stood := { row := vaultFullRow, standIns := [], harness := (true, "5f3148809e0aadf2bfbe1d2a756f8489a7d0a62bea09aacaa136f6ed011554a7"), looks := true }, kinds := [], alts := [], laidByText := true, laidKinds := [.data, .data, .data, .data, .sentinel, .sentinel, .pinned], laidTests := true, laidLooks := .later }
def VaultFullCardSaid : Prop := Claim7.holds Tryz.pinned (.plain (OpenSpec.ofChange vaultFullSpec)) vaultFullCard

/-- THE TIED CARD OF 'estafettelaw14.VaultDrop'. -/
def vaultDropCard : Claim7 := { stood := { row := vaultDropRow, standIns := [], harness := (true, "5f3148809e0aadf2bfbe1d2a756f8489a7d0a62bea09aacaa136f6ed011554a7"), looks := true }, kinds := [], alts := [], laidByText := true, laidKinds := [.data, .data, .data, .data, .sentinel, .sentinel, .pinned], laidTests := true, laidLooks := .later }
def VaultDropCardSaid : Prop := Claim7.holds Tryz.pinned (.plain (OpenSpec.ofChange vaultDropSpec)) vaultDropCard

/-- THE TIED CARD OF 'estafettelaw14.VaultTime'. -/
def vaultTimeCard : Claim7 := { stood := { row := vaultTimeRow, standIns := [], harness := (true, "5f3148809e0aadf2bfbe1d2a756f8489a7d0a62bea09aacaa136f6ed011554a7"), looks := true }, kinds := [], alts := [], laidByText := true, laidKinds := [.data, .data, .data, .data, .sentinel, .sentinel, .pinned], laidTests := true, laidLooks := .later }
def VaultTimeCardSaid : Prop := Claim7.holds Tryz.pinned (.plain (OpenSpec.ofChange vaultTimeSpec)) vaultTimeCard

/-- THE TIED CARD OF 'estafettelaw14.VaultApart'. -/
def vaultApartCard : Claim7 := { stood := { row := vaultApartRow, standIns := [], harness := (true, "5f3148809e0aadf2bfbe1d2a756f8489a7d0a62bea09aacaa136f6ed011554a7"), looks := true }, kinds := [], alts := [], laidByText := true, laidKinds := [.data, .data, .data, .data, .sentinel, .sentinel, .pinned], laidTests := true, laidLooks := .later }
def VaultApartCardSaid : Prop := Claim7.holds Tryz.pinned (.plain (OpenSpec.ofChange vaultApartSpec)) vaultApartCard

/-- THE TIED CARD OF 'estafettelaw14.VaultNone'. -/
def vaultNoneCard : Claim7 := { stood := { row := vaultNoneRow, standIns := [], harness := (true, "5f3148809e0aadf2bfbe1d2a756f8489a7d0a62bea09aacaa136f6ed011554a7"), looks := true }, kinds := [], alts := [], laidByText := true, laidKinds := [.data, .data, .data, .data, .sentinel, .sentinel, .pinned], laidTests := true, laidLooks := .later }
def VaultNoneCardSaid : Prop := Claim7.holds Tryz.pinned (.plain (OpenSpec.ofChange vaultNoneSpec)) vaultNoneCard

/-- THE TIED CARD OF 'estafettelaw14.VaultEq'. -/
def vaultEqCard : Claim7 := { stood := { row := vaultEqRow, standIns := [], harness := (true, "5f3148809e0aadf2bfbe1d2a756f8489a7d0a62bea09aacaa136f6ed011554a7"), looks := true }, kinds := [], alts := [], laidByText := true, laidKinds := [.data, .data, .data, .data, .sentinel, .sentinel, .pinned], laidTests := true, laidLooks := .later }
def VaultEqCardSaid : Prop := Claim7.holds Tryz.pinned (.plain (OpenSpec.ofChange vaultEqSpec)) vaultEqCard

/-- THE TIED CARD OF 'estafettelaw15.ShardNone'. -/
def shardNoneCard : Claim7 := { stood := { row := shardNoneRow, standIns := [], harness := (true, "5f3148809e0aadf2bfbe1d2a756f8489a7d0a62bea09aacaa136f6ed011554a7"), looks := true }, kinds := [], alts := [], laidByText := true, laidKinds := [.data, .data, .data, .data, .sentinel, .sentinel, .pinned], laidTests := true, laidLooks := .later }
def ShardNoneCardSaid : Prop := Claim7.holds Tryz.pinned (.plain (OpenSpec.ofChange shardNoneSpec)) shardNoneCard

/-- THE TIED CARD OF 'estafettelaw17.PoolNone'. -/
def poolNoneCard : Claim7 := { stood := { row := poolNoneRow, standIns := [], harness := (true, "5f3148809e0aadf2bfbe1d2a756f8489a7d0a62bea09aacaa136f6ed011554a7"), looks := true }, kinds := [], alts := [], laidByText := true, laidKinds := [.data, .data, .data, .data, .sentinel, .sentinel, .pinned], laidTests := true, laidLooks := .later }
def PoolNoneCardSaid : Prop := Claim7.holds Tryz.pinned (.plain (OpenSpec.ofChange poolNoneSpec)) poolNoneCard

/-- THE SECOND FORM's CARD OF 'estafettelaw14.VaultAll'. -/
def vaultAllUptoCard : Claim7 := { stood := { row := vaultAllUptoRow, standIns := [], harness := (true, "5f3148809e0aadf2bfbe1d2a756f8489a7d0a62bea09aacaa136f6ed011554a7"), looks := true }, kinds := [], alts := [], laidByText := true, laidKinds := [.data, .data, .data, .data, .sentinel, .sentinel, .pinned], laidTests := true, laidLooks := .later }
def VaultAllUptoCardSaid : Prop := Claim7.holds Tryz.pinned (.plain (OpenSpec.upto vaultAllSpec)) vaultAllUptoCard

/-- THE SECOND FORM's CARD OF 'estafettelaw14.VaultPlain'. -/
def vaultPlainUptoCard : Claim7 := { stood := { row := vaultPlainUptoRow, standIns := [], harness := (true, "5f3148809e0aadf2bfbe1d2a756f8489a7d0a62bea09aacaa136f6ed011554a7"), looks := true }, kinds := [], alts := [], laidByText := true, laidKinds := [.data, .data, .data, .data, .sentinel, .sentinel, .pinned], laidTests := true, laidLooks := .later }
def VaultPlainUptoCardSaid : Prop := Claim7.holds Tryz.pinned (.plain (OpenSpec.upto vaultPlainSpec)) vaultPlainUptoCard

/-- THE SECOND FORM's CARD OF 'estafettelaw14.VaultAgain'. -/
def vaultAgainUptoCard : Claim7 := { stood := { row := vaultAgainUptoRow, standIns := [], harness := (true, "5f3148809e0aadf2bfbe1d2a756f8489a7d0a62bea09aacaa136f6ed011554a7"), looks := true }, kinds := [], alts := [], laidByText := true, laidKinds := [.data, .data, .data, .data, .sentinel, .sentinel, .pinned], laidTests := true, laidLooks := .later }
def VaultAgainUptoCardSaid : Prop := Claim7.holds Tryz.pinned (.plain (OpenSpec.upto vaultAgainSpec)) vaultAgainUptoCard

/-- THE SECOND FORM's CARD OF 'estafettelaw14.VaultOwn'. -/
def vaultOwnUptoCard : Claim7 := { stood := { row := vaultOwnUptoRow, standIns := [], harness := (true, "5f3148809e0aadf2bfbe1d2a756f8489a7d0a62bea09aacaa136f6ed011554a7"), looks := true }, kinds := [], alts := [], laidByText := true, laidKinds := [.data, .data, .data, .data, .sentinel, .sentinel, .pinned], laidTests := true, laidLooks := .later }
def VaultOwnUptoCardSaid : Prop := Claim7.holds Tryz.pinned (.plain (OpenSpec.upto vaultOwnSpec)) vaultOwnUptoCard

/-- THE SECOND FORM's CARD OF 'estafettelaw14.VaultLocks'. -/
def vaultLocksUptoCard : Claim7 := { stood := { row := vaultLocksUptoRow, standIns := [], harness := (true, "5f3148809e0aadf2bfbe1d2a756f8489a7d0a62bea09aacaa136f6ed011554a7"), looks := true }, kinds := [], alts := [], laidByText := true, laidKinds := [.data, .data, .data, .data, .sentinel, .sentinel, .pinned], laidTests := true, laidLooks := .later }
def VaultLocksUptoCardSaid : Prop := Claim7.holds Tryz.pinned (.plain (OpenSpec.upto vaultLocksSpec)) vaultLocksUptoCard

/-- THE SECOND FORM's CARD OF 'estafettelaw14.VaultFull'. -/
def vaultFullUptoCard : Claim7 := { stood := { row := vaultFullUptoRow, standIns := [], harness := (true, "5f3148809e0aadf2bfbe1d2a756f8489a7d0a62bea09aacaa136f6ed011554a7"), looks := true }, kinds := [], alts := [], laidByText := true, laidKinds := [.data, .data, .data, .data, .sentinel, .sentinel, .pinned], laidTests := true, laidLooks := .later }
def VaultFullUptoCardSaid : Prop := Claim7.holds Tryz.pinned (.plain (OpenSpec.upto vaultFullSpec)) vaultFullUptoCard

/-- THE SECOND FORM's CARD OF 'estafettelaw14.VaultDrop'. -/
def vaultDropUptoCard : Claim7 := { stood := { row := vaultDropUptoRow, standIns := [], harness := (true, "5f3148809e0aadf2bfbe1d2a756f8489a7d0a62bea09aacaa136f6ed011554a7"), looks := true }, kinds := [], alts := [], laidByText := true, laidKinds := [.data, .data, .data, .data, .sentinel, .sentinel, .pinned], laidTests := true, laidLooks := .later }
def VaultDropUptoCardSaid : Prop := Claim7.holds Tryz.pinned (.plain (OpenSpec.upto vaultDropSpec)) vaultDropUptoCard

/-- THE SECOND FORM's CARD OF 'estafettelaw14.VaultTime'. -/
def vaultTimeUptoCard : Claim7 := { stood := { row := vaultTimeUptoRow, standIns := [], harness := (true, "5f3148809e0aadf2bfbe1d2a756f8489a7d0a62bea09aacaa136f6ed011554a7"), looks := true }, kinds := [], alts := [], laidByText := true, laidKinds := [.data, .data, .data, .data, .sentinel, .sentinel, .pinned], laidTests := true, laidLooks := .later }
def VaultTimeUptoCardSaid : Prop := Claim7.holds Tryz.pinned (.plain (OpenSpec.upto vaultTimeSpec)) vaultTimeUptoCard

/-- THE SECOND FORM's CARD OF 'estafettelaw14.VaultApart'. -/
def vaultApartUptoCard : Claim7 := { stood := { row := vaultApartUptoRow, standIns := [], harness := (true, "5f3148809e0aadf2bfbe1d2a756f8489a7d0a62bea09aacaa136f6ed011554a7"), looks := true }, kinds := [], alts := [], laidByText := true, laidKinds := [.data, .data, .data, .data, .sentinel, .sentinel, .pinned], laidTests := true, laidLooks := .later }
def VaultApartUptoCardSaid : Prop := Claim7.holds Tryz.pinned (.plain (OpenSpec.upto vaultApartSpec)) vaultApartUptoCard

/-- THE SECOND FORM's CARD OF 'estafettelaw14.VaultNone'. -/
def vaultNoneUptoCard : Claim7 := { stood := { row := vaultNoneUptoRow, standIns := [], harness := (true, "5f3148809e0aadf2bfbe1d2a756f8489a7d0a62bea09aacaa136f6ed011554a7"), looks := true }, kinds := [], alts := [], laidByText := true, laidKinds := [.data, .data, .data, .data, .sentinel, .sentinel, .pinned], laidTests := true, laidLooks := .later }
def VaultNoneUptoCardSaid : Prop := Claim7.holds Tryz.pinned (.plain (OpenSpec.upto vaultNoneSpec)) vaultNoneUptoCard

/-- THE SECOND FORM's CARD OF 'estafettelaw14.VaultEq'. -/
def vaultEqUptoCard : Claim7 := { stood := { row := vaultEqUptoRow, standIns := [], harness := (true, "5f3148809e0aadf2bfbe1d2a756f8489a7d0a62bea09aacaa136f6ed011554a7"), looks := true }, kinds := [], alts := [], laidByText := true, laidKinds := [.data, .data, .data, .data, .sentinel, .sentinel, .pinned], laidTests := true, laidLooks := .later }
def VaultEqUptoCardSaid : Prop := Claim7.holds Tryz.pinned (.plain (OpenSpec.upto vaultEqSpec)) vaultEqUptoCard

/-- THE SECOND FORM's CARD OF 'estafettelaw15.ShardNone'. -/
def shardNoneUptoCard : Claim7 := { stood := { row := shardNoneUptoRow, standIns := [], harness := (true, "5f3148809e0aadf2bfbe1d2a756f8489a7d0a62bea09aacaa136f6ed011554a7"), looks := true }, kinds := [], alts := [], laidByText := true, laidKinds := [.data, .data, .data, .data, .sentinel, .sentinel, .pinned], laidTests := true, laidLooks := .later }
def ShardNoneUptoCardSaid : Prop := Claim7.holds Tryz.pinned (.plain (OpenSpec.upto shardNoneSpec)) shardNoneUptoCard

/-- THE SECOND FORM's CARD OF 'estafettelaw17.PoolNone'. -/
def poolNoneUptoCard : Claim7 := { stood := { row := poolNoneUptoRow, standIns := [], harness := (true, "5f3148809e0aadf2bfbe1d2a756f8489a7d0a62bea09aacaa136f6ed011554a7"), looks := true }, kinds := [], alts := [], laidByText := true, laidKinds := [.data, .data, .data, .data, .sentinel, .sentinel, .pinned], laidTests := true, laidLooks := .later }
def PoolNoneUptoCardSaid : Prop := Claim7.holds Tryz.pinned (.plain (OpenSpec.upto poolNoneSpec)) poolNoneUptoCard
end Rows
end Go.Proofs.YtldjlkbjbkielaaGreatDoor
