/-
  DERIVED. GIVEN WITH THE SEED: THE CARDS: each row of YtlhpncpihbpkoaaDoorRows.lean that lists a variable, with what it lists TIED to the program's text (the seventh form; the later family's looks); each row that meets fmt, with fmt's text TOLD by the authors' own Lean function (tested against real Go, not proved from fmt's source: count such statements apart). THE CARD IS WHAT COUNTS. Prove the row's statement (the work); the ties are given (YtlhpncpihbpkoaaDoorTie.lean); close each card by the builder's one call (the guide's Derived/Test/ToyasCard.lean, 'card_holds'). Laid BY PROGRAM, IN A SANDBOX (cutbox-door.mjs). By AI agents, Wed Nov 11 2026. No macro, syntax, notation, axiom, sorry.
-/
import Derived.Test.YtlhpncpihbpkoaaDoorRows
import GoSem.ClaimSeven
namespace Go.Proofs.YtlhpncpihbpkoaaDoor
namespace Rows

/-- THE TIED CARD OF 'carryalllaw11.UrlWrites'. -/
def urlWritesCard : Claim7 := { stood := { row := urlWritesRow, standIns := [], harness := (true, "6b0ca29ace507ae3f97116a4506c522f5ced3c9ab17b40c3c9b348f44d6bc204"), looks := false }, kinds := [], alts := [], laidByText := true, laidKinds := [.data, .data, .data], laidTests := true, laidLooks := .later }
def UrlWritesCardSaid : Prop := Claim7.holds Tryd.pinned (.plain (OpenSpec.ofChange urlWritesSpec)) urlWritesCard

/-- THE TIED CARD OF 'carryalllaw11.UrlSchemes'. -/
def urlSchemesCard : Claim7 := { stood := { row := urlSchemesRow, standIns := [], harness := (true, "6b0ca29ace507ae3f97116a4506c522f5ced3c9ab17b40c3c9b348f44d6bc204"), looks := false }, kinds := [], alts := [], laidByText := true, laidKinds := [.data, .data, .data], laidTests := true, laidLooks := .later }
def UrlSchemesCardSaid : Prop := Claim7.holds Tryd.pinned (.plain (OpenSpec.ofChange urlSchemesSpec)) urlSchemesCard

/-- THE TIED CARD OF 'carryalllaw11.UrlSame'. -/
def urlSameCard : Claim7 := { stood := { row := urlSameRow, standIns := [], harness := (true, "6b0ca29ace507ae3f97116a4506c522f5ced3c9ab17b40c3c9b348f44d6bc204"), looks := false }, kinds := [], alts := [], laidByText := true, laidKinds := [.data, .data, .data], laidTests := true, laidLooks := .later }
def UrlSameCardSaid : Prop := Claim7.holds Tryd.pinned (.plain (OpenSpec.ofChange urlSameSpec)) urlSameCard

/-- THE TIED CARD OF 'carryalllaw11.UrlFragments'. -/
def urlFragmentsCard : Claim7 := { stood := { row := urlFragmentsRow, standIns := [], harness := (true, "6b0ca29ace507ae3f97116a4506c522f5ced3c9ab17b40c3c9b348f44d6bc204"), looks := false }, kinds := [], alts := [], laidByText := true, laidKinds := [.data, .data, .data], laidTests := true, laidLooks := .later }
def UrlFragmentsCardSaid : Prop := Claim7.holds Tryd.pinned (.plain (OpenSpec.ofChange urlFragmentsSpec)) urlFragmentsCard

/-- THE TIED CARD OF 'carryalllaw03.BaseWrites'. -/
def baseWritesCard : Claim7 := { stood := { row := baseWritesRow, standIns := [], harness := (true, "6b0ca29ace507ae3f97116a4506c522f5ced3c9ab17b40c3c9b348f44d6bc204"), looks := false }, kinds := [], alts := [], laidByText := true, laidKinds := [.data, .pinned], laidTests := true, laidLooks := .later }
def BaseWritesCardSaid : Prop := Claim7.holds Tryd.pinned (.plain (OpenSpec.ofChange baseWritesSpec)) baseWritesCard

/-- THE TIED CARD OF 'carryalllaw03.BaseReads'. -/
def baseReadsCard : Claim7 := { stood := { row := baseReadsRow, standIns := [], harness := (true, "6b0ca29ace507ae3f97116a4506c522f5ced3c9ab17b40c3c9b348f44d6bc204"), looks := false }, kinds := [], alts := [], laidByText := true, laidKinds := [.data, .pinned], laidTests := true, laidLooks := .later }
def BaseReadsCardSaid : Prop := Claim7.holds Tryd.pinned (.plain (OpenSpec.ofChange baseReadsSpec)) baseReadsCard

/-- THE TIED CARD OF 'carryalllaw03.BaseBlanks'. -/
def baseBlanksCard : Claim7 := { stood := { row := baseBlanksRow, standIns := [], harness := (true, "6b0ca29ace507ae3f97116a4506c522f5ced3c9ab17b40c3c9b348f44d6bc204"), looks := false }, kinds := [], alts := [], laidByText := true, laidKinds := [.data, .pinned], laidTests := true, laidLooks := .later }
def BaseBlanksCardSaid : Prop := Claim7.holds Tryd.pinned (.plain (OpenSpec.ofChange baseBlanksSpec)) baseBlanksCard

/-- THE TIED CARD OF 'carryalllaw03.BaseParts'. -/
def basePartsCard : Claim7 := { stood := { row := basePartsRow, standIns := [], harness := (true, "6b0ca29ace507ae3f97116a4506c522f5ced3c9ab17b40c3c9b348f44d6bc204"), looks := false }, kinds := [], alts := [], laidByText := true, laidKinds := [.data, .pinned], laidTests := true, laidLooks := .later }
def BasePartsCardSaid : Prop := Claim7.holds Tryd.pinned (.plain (OpenSpec.ofChange basePartsSpec)) basePartsCard

/-- THE TIED CARD OF 'carryalllaw03.BaseOdd'. -/
def baseOddCard : Claim7 := { stood := { row := baseOddRow, standIns := [], harness := (true, "6b0ca29ace507ae3f97116a4506c522f5ced3c9ab17b40c3c9b348f44d6bc204"), looks := false }, kinds := [], alts := [], laidByText := true, laidKinds := [.data, .pinned], laidTests := true, laidLooks := .later }
def BaseOddCardSaid : Prop := Claim7.holds Tryd.pinned (.plain (OpenSpec.ofChange baseOddSpec)) baseOddCard

/-- THE SECOND FORM's CARD OF 'carryalllaw11.UrlWrites'. -/
def urlWritesUptoCard : Claim7 := { stood := { row := urlWritesUptoRow, standIns := [], harness := (true, "6b0ca29ace507ae3f97116a4506c522f5ced3c9ab17b40c3c9b348f44d6bc204"), looks := false }, kinds := [], alts := [], laidByText := true, laidKinds := [.data, .data, .data], laidTests := true, laidLooks := .later }
def UrlWritesUptoCardSaid : Prop := Claim7.holds Tryd.pinned (.plain (OpenSpec.upto urlWritesSpec)) urlWritesUptoCard

/-- THE SECOND FORM's CARD OF 'carryalllaw11.UrlSchemes'. -/
def urlSchemesUptoCard : Claim7 := { stood := { row := urlSchemesUptoRow, standIns := [], harness := (true, "6b0ca29ace507ae3f97116a4506c522f5ced3c9ab17b40c3c9b348f44d6bc204"), looks := false }, kinds := [], alts := [], laidByText := true, laidKinds := [.data, .data, .data], laidTests := true, laidLooks := .later }
def UrlSchemesUptoCardSaid : Prop := Claim7.holds Tryd.pinned (.plain (OpenSpec.upto urlSchemesSpec)) urlSchemesUptoCard

/-- THE SECOND FORM's CARD OF 'carryalllaw11.UrlSame'. -/
def urlSameUptoCard : Claim7 := { stood := { row := urlSameUptoRow, standIns := [], harness := (true, "6b0ca29ace507ae3f97116a4506c522f5ced3c9ab17b40c3c9b348f44d6bc204"), looks := false }, kinds := [], alts := [], laidByText := true, laidKinds := [.data, .data, .data], laidTests := true, laidLooks := .later }
def UrlSameUptoCardSaid : Prop := Claim7.holds Tryd.pinned (.plain (OpenSpec.upto urlSameSpec)) urlSameUptoCard

/-- THE SECOND FORM's CARD OF 'carryalllaw11.UrlFragments'. -/
def urlFragmentsUptoCard : Claim7 := { stood := { row := urlFragmentsUptoRow, standIns := [], harness := (true, "6b0ca29ace507ae3f97116a4506c522f5ced3c9ab17b40c3c9b348f44d6bc204"), looks := false }, kinds := [], alts := [], laidByText := true, laidKinds := [.data, .data, .data], laidTests := true, laidLooks := .later }
def UrlFragmentsUptoCardSaid : Prop := Claim7.holds Tryd.pinned (.plain (OpenSpec.upto urlFragmentsSpec)) urlFragmentsUptoCard

/-- THE SECOND FORM's CARD OF 'carryalllaw03.BaseWrites'. -/
def baseWritesUptoCard : Claim7 := { stood := { row := baseWritesUptoRow, standIns := [], harness := (true, "6b0ca29ace507ae3f97116a4506c522f5ced3c9ab17b40c3c9b348f44d6bc204"), looks := false }, kinds := [], alts := [], laidByText := true, laidKinds := [.data, .pinned], laidTests := true, laidLooks := .later }
def BaseWritesUptoCardSaid : Prop := Claim7.holds Tryd.pinned (.plain (OpenSpec.upto baseWritesSpec)) baseWritesUptoCard

/-- THE SECOND FORM's CARD OF 'carryalllaw03.BaseReads'. -/
def baseReadsUptoCard : Claim7 := { stood := { row := baseReadsUptoRow, standIns := [], harness := (true, "6b0ca29ace507ae3f97116a4506c522f5ced3c9ab17b40c3c9b348f44d6bc204"), looks := false }, kinds := [], alts := [], laidByText := true, laidKinds := [.data, .pinned], laidTests := true, laidLooks := .later }
def BaseReadsUptoCardSaid : Prop := Claim7.holds Tryd.pinned (.plain (OpenSpec.upto baseReadsSpec)) baseReadsUptoCard

/-- THE SECOND FORM's CARD OF 'carryalllaw03.BaseBlanks'. -/
def baseBlanksUptoCard : Claim7 := { stood := { row := baseBlanksUptoRow, standIns := [], harness := (true, "6b0ca29ace507ae3f97116a4506c522f5ced3c9ab17b40c3c9b348f44d6bc204"), looks := false }, kinds := [], alts := [], laidByText := true, laidKinds := [.data, .pinned], laidTests := true, laidLooks := .later }
def BaseBlanksUptoCardSaid : Prop := Claim7.holds Tryd.pinned (.plain (OpenSpec.upto baseBlanksSpec)) baseBlanksUptoCard

/-- THE SECOND FORM's CARD OF 'carryalllaw03.BaseParts'. -/
def basePartsUptoCard : Claim7 := { stood := { row := basePartsUptoRow, standIns := [], harness := (true, "6b0ca29ace507ae3f97116a4506c522f5ced3c9ab17b40c3c9b348f44d6bc204"), looks := false }, kinds := [], alts := [], laidByText := true, laidKinds := [.data, .pinned], laidTests := true, laidLooks := .later }
def BasePartsUptoCardSaid : Prop := Claim7.holds Tryd.pinned (.plain (OpenSpec.upto basePartsSpec)) basePartsUptoCard

/-- THE SECOND FORM's CARD OF 'carryalllaw03.BaseOdd'. -/
def baseOddUptoCard : Claim7 := { stood := { row := baseOddUptoRow, standIns := [], harness := (true, "6b0ca29ace507ae3f97116a4506c522f5ced3c9ab17b40c3c9b348f44d6bc204"), looks := false }, kinds := [], alts := [], laidByText := true, laidKinds := [.data, .pinned], laidTests := true, laidLooks := .later }
def BaseOddUptoCardSaid : Prop := Claim7.holds Tryd.pinned (.plain (OpenSpec.upto baseOddSpec)) baseOddUptoCard
end Rows
end Go.Proofs.YtlhpncpihbpkoaaDoor
