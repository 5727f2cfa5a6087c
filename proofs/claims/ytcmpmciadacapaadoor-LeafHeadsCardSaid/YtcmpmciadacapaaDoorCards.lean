/-
  DERIVED. GIVEN WITH THE SEED: THE CARDS: each row of YtcmpmciadacapaaDoorRows.lean that lists a variable, with what it lists TIED to the program's text (the seventh form; the later family's looks); each row that meets fmt, with fmt's text TOLD by the authors' own Lean function (tested against real Go, not proved from fmt's source: count such statements apart). THE CARD IS WHAT COUNTS. Prove the row's statement (the work); the ties are given (YtcmpmciadacapaaDoorTie.lean); close each card by the builder's one call (the guide's Derived/Test/ToyasCard.lean, 'card_holds'). Laid BY PROGRAM, IN A SANDBOX (cutbox-door.mjs). By AI agents, Wed Nov 11 2026. No macro, syntax, notation, axiom, sorry.
-/
import Derived.Test.YtcmpmciadacapaaDoorRows
import GoSem.ClaimSeven
namespace Go.Proofs.YtcmpmciadacapaaDoor
namespace Rows

/-- THE TIED CARD OF 'rubricatorlaw18.LeafRules'. -/
def leafRulesCard : Claim7 := { stood := { row := leafRulesRow, standIns := [], harness := (true, "abbcb28bf814d69f63cdd43b0b6b0c7d6a75ecb41c13a51a24b59f402b82d339"), looks := false }, kinds := [], alts := [], laidByText := true, laidKinds := [.data, .pinned], laidTests := true, laidLooks := .later }
def LeafRulesCardSaid : Prop := Claim7.holds Tryd.pinned (.plain (OpenSpec.ofChange leafRulesSpec)) leafRulesCard

/-- THE TIED CARD OF 'rubricatorlaw18.LeafHeads'. -/
def leafHeadsCard : Claim7 := { stood := { row := leafHeadsRow, standIns := [], harness := (true, "abbcb28bf814d69f63cdd43b0b6b0c7d6a75ecb41c13a51a24b59f402b82d339"), looks := false }, kinds := [], alts := [], laidByText := true, laidKinds := [.data, .pinned], laidTests := true, laidLooks := .later }
def LeafHeadsCardSaid : Prop := Claim7.holds Tryd.pinned (.plain (OpenSpec.ofChange leafHeadsSpec)) leafHeadsCard

/-- THE SECOND FORM's CARD OF 'rubricatorlaw18.LeafRules'. -/
def leafRulesUptoCard : Claim7 := { stood := { row := leafRulesUptoRow, standIns := [], harness := (true, "abbcb28bf814d69f63cdd43b0b6b0c7d6a75ecb41c13a51a24b59f402b82d339"), looks := false }, kinds := [], alts := [], laidByText := true, laidKinds := [.data, .pinned], laidTests := true, laidLooks := .later }
def LeafRulesUptoCardSaid : Prop := Claim7.holds Tryd.pinned (.plain (OpenSpec.upto leafRulesSpec)) leafRulesUptoCard

/-- THE SECOND FORM's CARD OF 'rubricatorlaw18.LeafHeads'. -/
def leafHeadsUptoCard : Claim7 := { stood := { row := leafHeadsUptoRow, standIns := [], harness := (true, "abbcb28bf814d69f63cdd43b0b6b0c7d6a75ecb41c13a51a24b59f402b82d339"), looks := false }, kinds := [], alts := [], laidByText := true, laidKinds := [.data, .pinned], laidTests := true, laidLooks := .later }
def LeafHeadsUptoCardSaid : Prop := Claim7.holds Tryd.pinned (.plain (OpenSpec.upto leafHeadsSpec)) leafHeadsUptoCard
end Rows
end Go.Proofs.YtcmpmciadacapaaDoor
