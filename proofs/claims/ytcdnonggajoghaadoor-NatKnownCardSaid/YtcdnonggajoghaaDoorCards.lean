/-
  DERIVED. GIVEN WITH THE SEED: THE CARDS: each row of YtcdnonggajoghaaDoorRows.lean that lists a variable, with what it lists TIED to the program's text (the seventh form; the later family's looks); each row that meets fmt, with fmt's text TOLD by the authors' own Lean function (tested against real Go, not proved from fmt's source: count such statements apart). THE CARD IS WHAT COUNTS. Prove the row's statement (the work); the ties are given (YtcdnonggajoghaaDoorTie.lean); close each card by the builder's one call (the guide's Derived/Test/ToyasCard.lean, 'card_holds'). Laid BY PROGRAM, IN A SANDBOX (cutbox-door.mjs). By AI agents, Wed Nov 11 2026. No macro, syntax, notation, axiom, sorry.
-/
import Derived.Test.YtcdnonggajoghaaDoorRows
import GoSem.ClaimSeven
namespace Go.Proofs.YtcdnonggajoghaaDoor
namespace Rows

/-- THE TIED CARD OF 'parlourlaw01.NatCalls'. -/
def natCallsCard : Claim7 := { stood := { row := natCallsRow, standIns := [], harness := (true, "21b5c27c4c3a47a1a7c06e579ba3f21a0c8b75841bf56b43c6f9213850155b11"), looks := false }, kinds := [], alts := [], laidByText := true, laidKinds := [.data], laidTests := true, laidLooks := .later }
def NatCallsCardSaid : Prop := Claim7.holds Tryd.pinned (.plain (OpenSpec.ofChange natCallsSpec)) natCallsCard

/-- THE TIED CARD OF 'parlourlaw01.NatKnown'. -/
def natKnownCard : Claim7 := { stood := { row := natKnownRow, standIns := [], harness := (true, "21b5c27c4c3a47a1a7c06e579ba3f21a0c8b75841bf56b43c6f9213850155b11"), looks := false }, kinds := [], alts := [], laidByText := true, laidKinds := [.data], laidTests := true, laidLooks := .later }
def NatKnownCardSaid : Prop := Claim7.holds Tryd.pinned (.plain (OpenSpec.ofChange natKnownSpec)) natKnownCard

/-- THE TIED CARD OF 'parlourlaw01.NatTexts'. -/
def natTextsCard : Claim7 := { stood := { row := natTextsRow, standIns := [], harness := (true, "21b5c27c4c3a47a1a7c06e579ba3f21a0c8b75841bf56b43c6f9213850155b11"), looks := false }, kinds := [], alts := [], laidByText := true, laidKinds := [.data, .data, .pinned], laidTests := true, laidLooks := .later }
def NatTextsCardSaid : Prop := Claim7.holds Tryd.pinned (.plain (OpenSpec.ofChange natTextsSpec)) natTextsCard

/-- THE TIED CARD OF 'parlourlaw01.NatBack'. -/
def natBackCard : Claim7 := { stood := { row := natBackRow, standIns := [], harness := (true, "21b5c27c4c3a47a1a7c06e579ba3f21a0c8b75841bf56b43c6f9213850155b11"), looks := false }, kinds := [], alts := [], laidByText := true, laidKinds := [.data, .data, .pinned], laidTests := true, laidLooks := .later }
def NatBackCardSaid : Prop := Claim7.holds Tryd.pinned (.plain (OpenSpec.ofChange natBackSpec)) natBackCard

/-- THE SECOND FORM's CARD OF 'parlourlaw01.NatCalls'. -/
def natCallsUptoCard : Claim7 := { stood := { row := natCallsUptoRow, standIns := [], harness := (true, "21b5c27c4c3a47a1a7c06e579ba3f21a0c8b75841bf56b43c6f9213850155b11"), looks := false }, kinds := [], alts := [], laidByText := true, laidKinds := [.data], laidTests := true, laidLooks := .later }
def NatCallsUptoCardSaid : Prop := Claim7.holds Tryd.pinned (.plain (OpenSpec.upto natCallsSpec)) natCallsUptoCard

/-- THE SECOND FORM's CARD OF 'parlourlaw01.NatKnown'. -/
def natKnownUptoCard : Claim7 := { stood := { row := natKnownUptoRow, standIns := [], harness := (true, "21b5c27c4c3a47a1a7c06e579ba3f21a0c8b75841bf56b43c6f9213850155b11"), looks := false }, kinds := [], alts := [], laidByText := true, laidKinds := [.data], laidTests := true, laidLooks := .later }
def NatKnownUptoCardSaid : Prop := Claim7.holds Tryd.pinned (.plain (OpenSpec.upto natKnownSpec)) natKnownUptoCard

/-- THE SECOND FORM's CARD OF 'parlourlaw01.NatTexts'. -/
def natTextsUptoCard : Claim7 := { stood := { row := natTextsUptoRow, standIns := [], harness := (true, "21b5c27c4c3a47a1a7c06e579ba3f21a0c8b75841bf56b43c6f9213850155b11"), looks := false }, kinds := [], alts := [], laidByText := true, laidKinds := [.data, .data, .pinned], laidTests := true, laidLooks := .later }
def NatTextsUptoCardSaid : Prop := Claim7.holds Tryd.pinned (.plain (OpenSpec.upto natTextsSpec)) natTextsUptoCard

/-- THE SECOND FORM's CARD OF 'parlourlaw01.NatBack'. -/
def natBackUptoCard : Claim7 := { stood := { row := natBackUptoRow, standIns := [], harness := (true, "21b5c27c4c3a47a1a7c06e579ba3f21a0c8b75841bf56b43c6f9213850155b11"), looks := false }, kinds := [], alts := [], laidByText := true, laidKinds := [.data, .data, .pinned], laidTests := true, laidLooks := .later }
def NatBackUptoCardSaid : Prop := Claim7.holds Tryd.pinned (.plain (OpenSpec.upto natBackSpec)) natBackUptoCard
end Rows
end Go.Proofs.YtcdnonggajoghaaDoor
