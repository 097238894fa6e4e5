/-
  DERIVED. GIVEN WITH THE SEED: THE CARDS: each row of YthilcedkapakpaaGreatDoorRows.lean that lists a variable, with what it lists TIED to the program's text (the seventh form; the later family's looks); each row that meets fmt, with fmt's text TOLD by the authors' own Lean function (tested against real Go, not proved from fmt's source: count such statements apart). THE CARD IS WHAT COUNTS. Prove the row's statement (the work); the ties are given (YthilcedkapakpaaGreatDoorTie.lean); close each card by the builder's one call (the guide's Derived/Test/ToyasCard.lean, 'card_holds'). Laid BY PROGRAM, IN A SANDBOX (cutbox-door.mjs). By AI agents, Wed Nov 11 2026. No macro, syntax, notation, axiom, sorry.
-/
import Derived.Test.YthilcedkapakpaaGreatDoorRows
import GoSem.ClaimSeven
namespace Go.Proofs.YthilcedkapakpaaGreatDoor
namespace Rows

/-- THE TIED CARD OF 'estafettelaw8.TableAll'. -/
def tableAllCard : Claim7 := { stood := { row := tableAllRow, standIns := [], harness := (true, "98e385db3ab29ed4687b1fc2aaf6fa580e8aac735aadf89c6f7202b455105a5c"), looks := true }, kinds := [], alts := [], laidByText := true, laidKinds := [.data, .data, .data, .data, .sentinel, .sentinel, .pinned], laidTests := true, laidLooks := .later }
def TableAllCardSaid : Prop := Claim7.holds Tryz.pinned (.plain (OpenSpec.ofChange tableAllSpec)) tableAllCard

/-- THE TIED CARD OF 'estafettelaw8.QueueAll'. -/
def queueAllCard : Claim7 := { stood := { row := queueAllRow, standIns := [], harness := (true, "98e385db3ab29ed4687b1fc2aaf6fa580e8aac735aadf89c6f7202b455105a5c"), looks := true }, kinds := [], alts := [], laidByText := true, laidKinds := [.data, .data, .data, .data, .sentinel, .sentinel, .pinned], laidTests := true, laidLooks := .later }
def QueueAllCardSaid : Prop := Claim7.holds Tryz.pinned (.plain (OpenSpec.ofChange queueAllSpec)) queueAllCard

/-- THE TIED CARD OF 'estafettelaw8.QueueOnce'. -/
def queueOnceCard : Claim7 := { stood := { row := queueOnceRow, standIns := [], harness := (true, "98e385db3ab29ed4687b1fc2aaf6fa580e8aac735aadf89c6f7202b455105a5c"), looks := true }, kinds := [], alts := [], laidByText := true, laidKinds := [.data, .data, .data, .data, .sentinel, .sentinel, .pinned], laidTests := true, laidLooks := .later }
def QueueOnceCardSaid : Prop := Claim7.holds Tryz.pinned (.plain (OpenSpec.ofChange queueOnceSpec)) queueOnceCard

/-- THE TIED CARD OF 'estafettelaw8.QueueFair'. -/
def queueFairCard : Claim7 := { stood := { row := queueFairRow, standIns := [], harness := (true, "98e385db3ab29ed4687b1fc2aaf6fa580e8aac735aadf89c6f7202b455105a5c"), looks := true }, kinds := [], alts := [], laidByText := true, laidKinds := [.data, .data, .data, .data, .sentinel, .sentinel, .pinned], laidTests := true, laidLooks := .later }
def QueueFairCardSaid : Prop := Claim7.holds Tryz.pinned (.plain (OpenSpec.ofChange queueFairSpec)) queueFairCard

/-- THE TIED CARD OF 'estafettelaw8.TopicRise'. -/
def topicRiseCard : Claim7 := { stood := { row := topicRiseRow, standIns := [], harness := (true, "98e385db3ab29ed4687b1fc2aaf6fa580e8aac735aadf89c6f7202b455105a5c"), looks := true }, kinds := [], alts := [], laidByText := true, laidKinds := [.data, .data, .data, .data, .sentinel, .sentinel, .pinned], laidTests := true, laidLooks := .later }
def TopicRiseCardSaid : Prop := Claim7.holds Tryz.pinned (.plain (OpenSpec.ofChange topicRiseSpec)) topicRiseCard

/-- THE TIED CARD OF 'estafettelaw8.SpaceAll'. -/
def spaceAllCard : Claim7 := { stood := { row := spaceAllRow, standIns := [], harness := (true, "98e385db3ab29ed4687b1fc2aaf6fa580e8aac735aadf89c6f7202b455105a5c"), looks := true }, kinds := [], alts := [], laidByText := true, laidKinds := [.data, .data, .data, .data, .sentinel, .sentinel, .pinned], laidTests := true, laidLooks := .later }
def SpaceAllCardSaid : Prop := Claim7.holds Tryz.pinned (.plain (OpenSpec.ofChange spaceAllSpec)) spaceAllCard

/-- THE TIED CARD OF 'estafettelaw8.SpaceErrors'. -/
def spaceErrorsCard : Claim7 := { stood := { row := spaceErrorsRow, standIns := [], harness := (true, "98e385db3ab29ed4687b1fc2aaf6fa580e8aac735aadf89c6f7202b455105a5c"), looks := true }, kinds := [], alts := [], laidByText := true, laidKinds := [.data, .data, .data, .data, .sentinel, .sentinel, .pinned], laidTests := true, laidLooks := .later }
def SpaceErrorsCardSaid : Prop := Claim7.holds Tryz.pinned (.plain (OpenSpec.ofChange spaceErrorsSpec)) spaceErrorsCard

/-- THE TIED CARD OF 'estafettelaw8.SpaceNone'. -/
def spaceNoneCard : Claim7 := { stood := { row := spaceNoneRow, standIns := [], harness := (true, "98e385db3ab29ed4687b1fc2aaf6fa580e8aac735aadf89c6f7202b455105a5c"), looks := true }, kinds := [], alts := [], laidByText := true, laidKinds := [.data, .data, .data, .data, .sentinel, .sentinel, .pinned], laidTests := true, laidLooks := .later }
def SpaceNoneCardSaid : Prop := Claim7.holds Tryz.pinned (.plain (OpenSpec.ofChange spaceNoneSpec)) spaceNoneCard

/-- THE TIED CARD OF 'estafettelaw8.TableLast'. -/
def tableLastCard : Claim7 := { stood := { row := tableLastRow, standIns := [], harness := (true, "98e385db3ab29ed4687b1fc2aaf6fa580e8aac735aadf89c6f7202b455105a5c"), looks := true }, kinds := [], alts := [], laidByText := true, laidKinds := [.data, .data, .data, .data, .sentinel, .sentinel, .pinned], laidTests := true, laidLooks := .later }
def TableLastCardSaid : Prop := Claim7.holds Tryz.pinned (.plain (OpenSpec.ofChange tableLastSpec)) tableLastCard

/-- THE TIED CARD OF 'estafettelaw8.QueueAgain'. -/
def queueAgainCard : Claim7 := { stood := { row := queueAgainRow, standIns := [], harness := (true, "98e385db3ab29ed4687b1fc2aaf6fa580e8aac735aadf89c6f7202b455105a5c"), looks := true }, kinds := [], alts := [], laidByText := true, laidKinds := [.data, .data, .data, .data, .sentinel, .sentinel, .pinned], laidTests := true, laidLooks := .later }
def QueueAgainCardSaid : Prop := Claim7.holds Tryz.pinned (.plain (OpenSpec.ofChange queueAgainSpec)) queueAgainCard

/-- THE TIED CARD OF 'estafettelaw8.QueueToken'. -/
def queueTokenCard : Claim7 := { stood := { row := queueTokenRow, standIns := [], harness := (true, "98e385db3ab29ed4687b1fc2aaf6fa580e8aac735aadf89c6f7202b455105a5c"), looks := true }, kinds := [], alts := [], laidByText := true, laidKinds := [.data, .data, .data, .data, .sentinel, .sentinel, .pinned], laidTests := true, laidLooks := .later }
def QueueTokenCardSaid : Prop := Claim7.holds Tryz.pinned (.plain (OpenSpec.ofChange queueTokenSpec)) queueTokenCard

/-- THE TIED CARD OF 'estafettelaw8.TopicFetch'. -/
def topicFetchCard : Claim7 := { stood := { row := topicFetchRow, standIns := [], harness := (true, "98e385db3ab29ed4687b1fc2aaf6fa580e8aac735aadf89c6f7202b455105a5c"), looks := true }, kinds := [], alts := [], laidByText := true, laidKinds := [.data, .data, .data, .data, .sentinel, .sentinel, .pinned], laidTests := true, laidLooks := .later }
def TopicFetchCardSaid : Prop := Claim7.holds Tryz.pinned (.plain (OpenSpec.ofChange topicFetchSpec)) topicFetchCard

/-- THE TIED CARD OF 'estafettelaw8.SpaceKinds'. -/
def spaceKindsCard : Claim7 := { stood := { row := spaceKindsRow, standIns := [], harness := (true, "98e385db3ab29ed4687b1fc2aaf6fa580e8aac735aadf89c6f7202b455105a5c"), looks := true }, kinds := [], alts := [], laidByText := true, laidKinds := [.data, .data, .data, .data, .sentinel, .sentinel, .pinned], laidTests := true, laidLooks := .later }
def SpaceKindsCardSaid : Prop := Claim7.holds Tryz.pinned (.plain (OpenSpec.ofChange spaceKindsSpec)) spaceKindsCard

/-- THE TIED CARD OF 'estafettelaw8.SpaceFetch'. -/
def spaceFetchCard : Claim7 := { stood := { row := spaceFetchRow, standIns := [], harness := (true, "98e385db3ab29ed4687b1fc2aaf6fa580e8aac735aadf89c6f7202b455105a5c"), looks := true }, kinds := [], alts := [], laidByText := true, laidKinds := [.data, .data, .data, .data, .sentinel, .sentinel, .pinned], laidTests := true, laidLooks := .later }
def SpaceFetchCardSaid : Prop := Claim7.holds Tryz.pinned (.plain (OpenSpec.ofChange spaceFetchSpec)) spaceFetchCard

/-- THE SECOND FORM's CARD OF 'estafettelaw8.TableAll'. -/
def tableAllUptoCard : Claim7 := { stood := { row := tableAllUptoRow, standIns := [], harness := (true, "98e385db3ab29ed4687b1fc2aaf6fa580e8aac735aadf89c6f7202b455105a5c"), looks := true }, kinds := [], alts := [], laidByText := true, laidKinds := [.data, .data, .data, .data, .sentinel, .sentinel, .pinned], laidTests := true, laidLooks := .later }
def TableAllUptoCardSaid : Prop := Claim7.holds Tryz.pinned (.plain (OpenSpec.upto tableAllSpec)) tableAllUptoCard

/-- THE SECOND FORM's CARD OF 'estafettelaw8.QueueAll'. -/
def queueAllUptoCard : Claim7 := { stood := { row := queueAllUptoRow, standIns := [], harness := (true, "98e385db3ab29ed4687b1fc2aaf6fa580e8aac735aadf89c6f7202b455105a5c"), looks := true }, kinds := [], alts := [], laidByText := true, laidKinds := [.data, .data, .data, .data, .sentinel, .sentinel, .pinned], laidTests := true, laidLooks := .later }
def QueueAllUptoCardSaid : Prop := Claim7.holds Tryz.pinned (.plain (OpenSpec.upto queueAllSpec)) queueAllUptoCard

/-- THE SECOND FORM's CARD OF 'estafettelaw8.QueueOnce'. -/
def queueOnceUptoCard : Claim7 := { stood := { row := queueOnceUptoRow, standIns := [], harness := (true, "98e385db3ab29ed4687b1fc2aaf6fa580e8aac735aadf89c6f7202b455105a5c"), looks := true }, kinds := [], alts := [], laidByText := true, laidKinds := [.data, .data, .data, .data, .sentinel, .sentinel, .pinned], laidTests := true, laidLooks := .later }
def QueueOnceUptoCardSaid : Prop := Claim7.holds Tryz.pinned (.plain (OpenSpec.upto queueOnceSpec)) queueOnceUptoCard

/-- THE SECOND FORM's CARD OF 'estafettelaw8.QueueFair'. -/
def queueFairUptoCard : Claim7 := { stood := { row := queueFairUptoRow, standIns := [], harness := (true, "98e385db3ab29ed4687b1fc2aaf6fa580e8aac735aadf89c6f7202b455105a5c"), looks := true }, kinds := [], alts := [], laidByText := true, laidKinds := [.data, .data, .data, .data, .sentinel, .sentinel, .pinned], laidTests := true, laidLooks := .later }
def QueueFairUptoCardSaid : Prop := Claim7.holds Tryz.pinned (.plain (OpenSpec.upto queueFairSpec)) queueFairUptoCard

/-- THE SECOND FORM's CARD OF 'estafettelaw8.TopicRise'. -/
def topicRiseUptoCard : Claim7 := { stood := { row := topicRiseUptoRow, standIns := [], harness := (true, "98e385db3ab29ed4687b1fc2aaf6fa580e8aac735aadf89c6f7202b455105a5c"), looks := true }, kinds := [], alts := [], laidByText := true, laidKinds := [.data, .data, .data, .data, .sentinel, .sentinel, .pinned], laidTests := true, laidLooks := .later }
def TopicRiseUptoCardSaid : Prop := Claim7.holds Tryz.pinned (.plain (OpenSpec.upto topicRiseSpec)) topicRiseUptoCard

/-- THE SECOND FORM's CARD OF 'estafettelaw8.SpaceAll'. -/
def spaceAllUptoCard : Claim7 := { stood := { row := spaceAllUptoRow, standIns := [], harness := (true, "98e385db3ab29ed4687b1fc2aaf6fa580e8aac735aadf89c6f7202b455105a5c"), looks := true }, kinds := [], alts := [], laidByText := true, laidKinds := [.data, .data, .data, .data, .sentinel, .sentinel, .pinned], laidTests := true, laidLooks := .later }
def SpaceAllUptoCardSaid : Prop := Claim7.holds Tryz.pinned (.plain (OpenSpec.upto spaceAllSpec)) spaceAllUptoCard

/-- THE SECOND FORM's CARD OF 'estafettelaw8.SpaceErrors'. -/
def spaceErrorsUptoCard : Claim7 := { stood := { row := spaceErrorsUptoRow, standIns := [], harness := (true, "98e385db3ab29ed4687b1fc2aaf6fa580e8aac735aadf89c6f7202b455105a5c"), looks := true }, kinds := [], alts := [], laidByText := true, laidKinds := [.data, .data, .data, .data, .sentinel, .sentinel, .pinned], laidTests := true, laidLooks := .later }
def SpaceErrorsUptoCardSaid : Prop := Claim7.holds Tryz.pinned (.plain (OpenSpec.upto spaceErrorsSpec)) spaceErrorsUptoCard

/-- THE SECOND FORM's CARD OF 'estafettelaw8.SpaceNone'. -/
def spaceNoneUptoCard : Claim7 := { stood := { row := spaceNoneUptoRow, standIns := [], harness := (true, "98e385db3ab29ed4687b1fc2aaf6fa580e8aac735aadf89c6f7202b455105a5c"), looks := true }, kinds := [], alts := [], laidByText := true, laidKinds := [.data, .data, .data, .data, .sentinel, .sentinel, .pinned], laidTests := true, laidLooks := .later }
def SpaceNoneUptoCardSaid : Prop := Claim7.holds Tryz.pinned (.plain (OpenSpec.upto spaceNoneSpec)) spaceNoneUptoCard

/-- THE SECOND FORM's CARD OF 'estafettelaw8.TableLast'. -/
def tableLastUptoCard : Claim7 := { stood := { row := tableLastUptoRow, standIns := [], harness := (true, "98e385db3ab29ed4687b1fc2aaf6fa580e8aac735aadf89c6f7202b455105a5c"), looks := true }, kinds := [], alts := [], laidByText := true, laidKinds := [.data, .data, .data, .data, .sentinel, .sentinel, .pinned], laidTests := true, laidLooks := .later }
def TableLastUptoCardSaid : Prop := Claim7.holds Tryz.pinned (.plain (OpenSpec.upto tableLastSpec)) tableLastUptoCard

/-- THE SECOND FORM's CARD OF 'estafettelaw8.QueueAgain'. -/
def queueAgainUptoCard : Claim7 := { stood := { row := queueAgainUptoRow, standIns := [], harness := (true, "98e385db3ab29ed4687b1fc2aaf6fa580e8aac735aadf89c6f7202b455105a5c"), looks := true }, kinds := [], alts := [], laidByText := true, laidKinds := [.data, .data, .data, .data, .sentinel, .sentinel, .pinned], laidTests := true, laidLooks := .later }
def QueueAgainUptoCardSaid : Prop := Claim7.holds Tryz.pinned (.plain (OpenSpec.upto queueAgainSpec)) queueAgainUptoCard

/-- THE SECOND FORM's CARD OF 'estafettelaw8.QueueToken'. -/
def queueTokenUptoCard : Claim7 := { stood := { row := queueTokenUptoRow, standIns := [], harness := (true, "98e385db3ab29ed4687b1fc2aaf6fa580e8aac735aadf89c6f7202b455105a5c"), looks := true }, kinds := [], alts := [], laidByText := true, laidKinds := [.data, .data, .data, .data, .sentinel, .sentinel, .pinned], laidTests := true, laidLooks := .later }
def QueueTokenUptoCardSaid : Prop := Claim7.holds Tryz.pinned (.plain (OpenSpec.upto queueTokenSpec)) queueTokenUptoCard

/-- THE SECOND FORM's CARD OF 'estafettelaw8.TopicFetch'. -/
def topicFetchUptoCard : Claim7 := { stood := { row := topicFetchUptoRow, standIns := [], harness := (true, "98e385db3ab29ed4687b1fc2aaf6fa580e8aac735aadf89c6f7202b455105a5c"), looks := true }, kinds := [], alts := [], laidByText := true, laidKinds := [.data, .data, .data, .data, .sentinel, .sentinel, .pinned], laidTests := true, laidLooks := .later }
def TopicFetchUptoCardSaid : Prop := Claim7.holds Tryz.pinned (.plain (OpenSpec.upto topicFetchSpec)) topicFetchUptoCard

/-- THE SECOND FORM's CARD OF 'estafettelaw8.SpaceKinds'. -/
def spaceKindsUptoCard : Claim7 := { stood := { row := spaceKindsUptoRow, standIns := [], harness := (true, "98e385db3ab29ed4687b1fc2aaf6fa580e8aac735aadf89c6f7202b455105a5c"), looks := true }, kinds := [], alts := [], laidByText := true, laidKinds := [.data, .data, .data, .data, .sentinel, .sentinel, .pinned], laidTests := true, laidLooks := .later }
def SpaceKindsUptoCardSaid : Prop := Claim7.holds Tryz.pinned (.plain (OpenSpec.upto spaceKindsSpec)) spaceKindsUptoCard

/-- THE SECOND FORM's CARD OF 'estafettelaw8.SpaceFetch'. -/
def spaceFetchUptoCard : Claim7 := { stood := { row := spaceFetchUptoRow, standIns := [], harness := (true, "98e385db3ab29ed4687b1fc2aaf6fa580e8aac735aadf89c6f7202b455105a5c"), looks := true }, kinds := [], alts := [], laidByText := true, laidKinds := [.data, .data, .data, .data, .sentinel, .sentinel, .pinned], laidTests := true, laidLooks := .later }
def SpaceFetchUptoCardSaid : Prop := Claim7.holds Tryz.pinned (.plain (OpenSpec.upto spaceFetchSpec)) spaceFetchUptoCard
end Rows
end Go.Proofs.YthilcedkapakpaaGreatDoor
