/-
  DERIVED. GIVEN WITH THE SEED: THE CARDS: each row of YtpimcdkhjingjaaGreatDoorRows.lean that lists a variable, with what it lists TIED to the program's text (the seventh form; the later family's looks); each row that meets fmt, with fmt's text TOLD by the authors' own Lean function (tested against real Go, not proved from fmt's source: count such statements apart). THE CARD IS WHAT COUNTS. Prove the row's statement (the work); the ties are given (YtpimcdkhjingjaaGreatDoorTie.lean); close each card by the builder's one call (the guide's Derived/Test/ToyasCard.lean, 'card_holds'). Laid BY PROGRAM, IN A SANDBOX (cutbox-door.mjs). By AI agents, Wed Nov 11 2026. No macro, syntax, notation, axiom, sorry.
-/
import Derived.Test.YtpimcdkhjingjaaGreatDoorRows
import GoSem.ClaimSeven
namespace Go.Proofs.YtpimcdkhjingjaaGreatDoor
namespace Rows

/-- THE TIED CARD OF 'rubricatorlaw19.BlockParses'. -/
def blockParsesCard : Claim7 := { stood := { row := blockParsesRow, standIns := [], harness := (true, "0fceae03c830a24a4e0fc744edbb53d38a40ff74bee4e290f3b4ef641a7e8111"), looks := true }, kinds := [], alts := [], laidByText := true, laidKinds := [.data, .data, .data, .data, .sentinel, .sentinel, .pinned], laidTests := true, laidLooks := .later }
def BlockParsesCardSaid : Prop := Claim7.holds Tryz.pinned (.plain (OpenSpec.ofChange blockParsesSpec)) blockParsesCard

/-- THE TIED CARD OF 'rubricatorlaw19.BlockQuotes'. -/
def blockQuotesCard : Claim7 := { stood := { row := blockQuotesRow, standIns := [], harness := (true, "0fceae03c830a24a4e0fc744edbb53d38a40ff74bee4e290f3b4ef641a7e8111"), looks := true }, kinds := [], alts := [], laidByText := true, laidKinds := [.data, .data, .data, .data, .sentinel, .sentinel, .pinned], laidTests := true, laidLooks := .later }
def BlockQuotesCardSaid : Prop := Claim7.holds Tryz.pinned (.plain (OpenSpec.ofChange blockQuotesSpec)) blockQuotesCard

/-- THE TIED CARD OF 'rubricatorlaw19.BlockFences'. -/
def blockFencesCard : Claim7 := { stood := { row := blockFencesRow, standIns := [], harness := (true, "0fceae03c830a24a4e0fc744edbb53d38a40ff74bee4e290f3b4ef641a7e8111"), looks := true }, kinds := [], alts := [], laidByText := true, laidKinds := [.data, .data, .data, .data, .sentinel, .sentinel, .pinned], laidTests := true, laidLooks := .later }
def BlockFencesCardSaid : Prop := Claim7.holds Tryz.pinned (.plain (OpenSpec.ofChange blockFencesSpec)) blockFencesCard

/-- THE TIED CARD OF 'rubricatorlaw19.BlockBlanks'. -/
def blockBlanksCard : Claim7 := { stood := { row := blockBlanksRow, standIns := [], harness := (true, "0fceae03c830a24a4e0fc744edbb53d38a40ff74bee4e290f3b4ef641a7e8111"), looks := true }, kinds := [], alts := [], laidByText := true, laidKinds := [.data, .data, .data, .data, .sentinel, .sentinel, .pinned], laidTests := true, laidLooks := .later }
def BlockBlanksCardSaid : Prop := Claim7.holds Tryz.pinned (.plain (OpenSpec.ofChange blockBlanksSpec)) blockBlanksCard

/-- THE TIED CARD OF 'rubricatorlaw19.BlockApart'. -/
def blockApartCard : Claim7 := { stood := { row := blockApartRow, standIns := [], harness := (true, "0fceae03c830a24a4e0fc744edbb53d38a40ff74bee4e290f3b4ef641a7e8111"), looks := true }, kinds := [], alts := [], laidByText := true, laidKinds := [.data, .data, .data, .data, .sentinel, .sentinel, .pinned], laidTests := true, laidLooks := .later }
def BlockApartCardSaid : Prop := Claim7.holds Tryz.pinned (.plain (OpenSpec.ofChange blockApartSpec)) blockApartCard

/-- THE TIED CARD OF 'rubricatorlaw19.BlockItems'. -/
def blockItemsCard : Claim7 := { stood := { row := blockItemsRow, standIns := [], harness := (true, "0fceae03c830a24a4e0fc744edbb53d38a40ff74bee4e290f3b4ef641a7e8111"), looks := true }, kinds := [], alts := [], laidByText := true, laidKinds := [.data, .data, .data, .data, .sentinel, .sentinel, .pinned], laidTests := true, laidLooks := .later }
def BlockItemsCardSaid : Prop := Claim7.holds Tryz.pinned (.plain (OpenSpec.ofChange blockItemsSpec)) blockItemsCard

/-- THE TIED CARD OF 'rubricatorlaw19.BlockLazy'. -/
def blockLazyCard : Claim7 := { stood := { row := blockLazyRow, standIns := [], harness := (true, "0fceae03c830a24a4e0fc744edbb53d38a40ff74bee4e290f3b4ef641a7e8111"), looks := true }, kinds := [], alts := [], laidByText := true, laidKinds := [.data, .data, .data, .data, .sentinel, .sentinel, .pinned], laidTests := true, laidLooks := .later }
def BlockLazyCardSaid : Prop := Claim7.holds Tryz.pinned (.plain (OpenSpec.ofChange blockLazySpec)) blockLazyCard

/-- THE TIED CARD OF 'rubricatorlaw19.BlockTight'. -/
def blockTightCard : Claim7 := { stood := { row := blockTightRow, standIns := [], harness := (true, "0fceae03c830a24a4e0fc744edbb53d38a40ff74bee4e290f3b4ef641a7e8111"), looks := true }, kinds := [], alts := [], laidByText := true, laidKinds := [.data, .data, .data, .data, .sentinel, .sentinel, .pinned], laidTests := true, laidLooks := .later }
def BlockTightCardSaid : Prop := Claim7.holds Tryz.pinned (.plain (OpenSpec.ofChange blockTightSpec)) blockTightCard

/-- THE TIED CARD OF 'rubricatorlaw19.BlockCode'. -/
def blockCodeCard : Claim7 := { stood := { row := blockCodeRow, standIns := [], harness := (true, "0fceae03c830a24a4e0fc744edbb53d38a40ff74bee4e290f3b4ef641a7e8111"), looks := true }, kinds := [], alts := [], laidByText := true, laidKinds := [.data, .data, .data, .data, .sentinel, .sentinel, .pinned], laidTests := true, laidLooks := .later }
def BlockCodeCardSaid : Prop := Claim7.holds Tryz.pinned (.plain (OpenSpec.ofChange blockCodeSpec)) blockCodeCard

/-- THE SECOND FORM's CARD OF 'rubricatorlaw19.BlockParses'. -/
def blockParsesUptoCard : Claim7 := { stood := { row := blockParsesUptoRow, standIns := [], harness := (true, "0fceae03c830a24a4e0fc744edbb53d38a40ff74bee4e290f3b4ef641a7e8111"), looks := true }, kinds := [], alts := [], laidByText := true, laidKinds := [.data, .data, .data, .data, .sentinel, .sentinel, .pinned], laidTests := true, laidLooks := .later }
def BlockParsesUptoCardSaid : Prop := Claim7.holds Tryz.pinned (.plain (OpenSpec.upto blockParsesSpec)) blockParsesUptoCard

/-- THE SECOND FORM's CARD OF 'rubricatorlaw19.BlockQuotes'. -/
def blockQuotesUptoCard : Claim7 := { stood := { row := blockQuotesUptoRow, standIns := [], harness := (true, "0fceae03c830a24a4e0fc744edbb53d38a40ff74bee4e290f3b4ef641a7e8111"), looks := true }, kinds := [], alts := [], laidByText := true, laidKinds := [.data, .data, .data, .data, .sentinel, .sentinel, .pinned], laidTests := true, laidLooks := .later }
def BlockQuotesUptoCardSaid : Prop := Claim7.holds Tryz.pinned (.plain (OpenSpec.upto blockQuotesSpec)) blockQuotesUptoCard

/-- THE SECOND FORM's CARD OF 'rubricatorlaw19.BlockFences'. -/
def blockFencesUptoCard : Claim7 := { stood := { row := blockFencesUptoRow, standIns := [], harness := (true, "0fceae03c830a24a4e0fc744edbb53d38a40ff74bee4e290f3b4ef641a7e8111"), looks := true }, kinds := [], alts := [], laidByText := true, laidKinds := [.data, .data, .data, .data, .sentinel, .sentinel, .pinned], laidTests := true, laidLooks := .later }
def BlockFencesUptoCardSaid : Prop := Claim7.holds Tryz.pinned (.plain (OpenSpec.upto blockFencesSpec)) blockFencesUptoCard

/-- THE SECOND FORM's CARD OF 'rubricatorlaw19.BlockBlanks'. -/
def blockBlanksUptoCard : Claim7 := { stood := { row := blockBlanksUptoRow, standIns := [], harness := (true, "0fceae03c830a24a4e0fc744edbb53d38a40ff74bee4e290f3b4ef641a7e8111"), looks := true }, kinds := [], alts := [], laidByText := true, laidKinds := [.data, .data, .data, .data, .sentinel, .sentinel, .pinned], laidTests := true, laidLooks := .later }
def BlockBlanksUptoCardSaid : Prop := Claim7.holds Tryz.pinned (.plain (OpenSpec.upto blockBlanksSpec)) blockBlanksUptoCard

/-- THE SECOND FORM's CARD OF 'rubricatorlaw19.BlockApart'. -/
def blockApartUptoCard : Claim7 := { stood := { row := blockApartUptoRow, standIns := [], harness := (true, "0fceae03c830a24a4e0fc744edbb53d38a40ff74bee4e290f3b4ef641a7e8111"), looks := true }, kinds := [], alts := [], laidByText := true, laidKinds := [.data, .data, .data, .data, .sentinel, .sentinel, .pinned], laidTests := true, laidLooks := .later }
def BlockApartUptoCardSaid : Prop := Claim7.holds Tryz.pinned (.plain (OpenSpec.upto blockApartSpec)) blockApartUptoCard

/-- THE SECOND FORM's CARD OF 'rubricatorlaw19.BlockItems'. -/
def blockItemsUptoCard : Claim7 := { stood := { row := blockItemsUptoRow, standIns := [], harness := (true, "0fceae03c830a24a4e0fc744edbb53d38a40ff74bee4e290f3b4ef641a7e8111"), looks := true }, kinds := [], alts := [], laidByText := true, laidKinds := [.data, .data, .data, .data, .sentinel, .sentinel, .pinned], laidTests := true, laidLooks := .later }
def BlockItemsUptoCardSaid : Prop := Claim7.holds Tryz.pinned (.plain (OpenSpec.upto blockItemsSpec)) blockItemsUptoCard

/-- THE SECOND FORM's CARD OF 'rubricatorlaw19.BlockLazy'. -/
def blockLazyUptoCard : Claim7 := { stood := { row := blockLazyUptoRow, standIns := [], harness := (true, "0fceae03c830a24a4e0fc744edbb53d38a40ff74bee4e290f3b4ef641a7e8111"), looks := true }, kinds := [], alts := [], laidByText := true, laidKinds := [.data, .data, .data, .data, .sentinel, .sentinel, .pinned], laidTests := true, laidLooks := .later }
def BlockLazyUptoCardSaid : Prop := Claim7.holds Tryz.pinned (.plain (OpenSpec.upto blockLazySpec)) blockLazyUptoCard

/-- THE SECOND FORM's CARD OF 'rubricatorlaw19.BlockTight'. -/
def blockTightUptoCard : Claim7 := { stood := { row := blockTightUptoRow, standIns := [], harness := (true, "0fceae03c830a24a4e0fc744edbb53d38a40ff74bee4e290f3b4ef641a7e8111"), looks := true }, kinds := [], alts := [], laidByText := true, laidKinds := [.data, .data, .data, .data, .sentinel, .sentinel, .pinned], laidTests := true, laidLooks := .later }
def BlockTightUptoCardSaid : Prop := Claim7.holds Tryz.pinned (.plain (OpenSpec.upto blockTightSpec)) blockTightUptoCard

/-- THE SECOND FORM's CARD OF 'rubricatorlaw19.BlockCode'. -/
def blockCodeUptoCard : Claim7 := { stood := { row := blockCodeUptoRow, standIns := [], harness := (true, "0fceae03c830a24a4e0fc744edbb53d38a40ff74bee4e290f3b4ef641a7e8111"), looks := true }, kinds := [], alts := [], laidByText := true, laidKinds := [.data, .data, .data, .data, .sentinel, .sentinel, .pinned], laidTests := true, laidLooks := .later }
def BlockCodeUptoCardSaid : Prop := Claim7.holds Tryz.pinned (.plain (OpenSpec.upto blockCodeSpec)) blockCodeUptoCard
end Rows
end Go.Proofs.YtpimcdkhjingjaaGreatDoor
