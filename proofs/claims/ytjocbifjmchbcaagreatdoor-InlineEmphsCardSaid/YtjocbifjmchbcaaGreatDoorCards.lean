/-
  DERIVED. GIVEN WITH THE SEED: THE CARDS: each row of YtjocbifjmchbcaaGreatDoorRows.lean that lists a variable, with what it lists TIED to the program's text (the seventh form; the later family's looks); each row that meets fmt, with fmt's text TOLD by the authors' own Lean function (tested against real Go, not proved from fmt's source: count such statements apart). THE CARD IS WHAT COUNTS. Prove the row's statement (the work); the ties are given (YtjocbifjmchbcaaGreatDoorTie.lean); close each card by the builder's one call (the guide's Derived/Test/ToyasCard.lean, 'card_holds'). Laid BY PROGRAM, IN A SANDBOX (cutbox-door.mjs). By AI agents, Wed Nov 11 2026. No macro, syntax, notation, axiom, sorry.
-/
import Derived.Test.YtjocbifjmchbcaaGreatDoorRows
import GoSem.ClaimSeven
namespace Go.Proofs.YtjocbifjmchbcaaGreatDoor
namespace Rows

/-- THE TIED CARD OF 'incipitlaw14.InlineEmphs'. -/
def inlineEmphsCard : Claim7 := { stood := { row := inlineEmphsRow, standIns := [], harness := (true, "f58024ac784f0898665aac4b350793aee40a702f6ae27606204ea0790a920afd"), looks := true }, kinds := [], alts := [], laidByText := true, laidKinds := [.data, .data, .data, .data, .sentinel, .sentinel, .pinned], laidTests := true, laidLooks := .later }
def InlineEmphsCardSaid : Prop := Claim7.holds Tryz.pinned (.plain (OpenSpec.ofChange inlineEmphsSpec)) inlineEmphsCard

/-- THE TIED CARD OF 'incipitlaw14.InlineBreaks'. -/
def inlineBreaksCard : Claim7 := { stood := { row := inlineBreaksRow, standIns := [], harness := (true, "f58024ac784f0898665aac4b350793aee40a702f6ae27606204ea0790a920afd"), looks := true }, kinds := [], alts := [], laidByText := true, laidKinds := [.data, .data, .data, .data, .sentinel, .sentinel, .pinned], laidTests := true, laidLooks := .later }
def InlineBreaksCardSaid : Prop := Claim7.holds Tryz.pinned (.plain (OpenSpec.ofChange inlineBreaksSpec)) inlineBreaksCard

/-- THE TIED CARD OF 'incipitlaw14.InlineParses'. -/
def inlineParsesCard : Claim7 := { stood := { row := inlineParsesRow, standIns := [], harness := (true, "f58024ac784f0898665aac4b350793aee40a702f6ae27606204ea0790a920afd"), looks := true }, kinds := [], alts := [], laidByText := true, laidKinds := [.data, .data, .data, .data, .sentinel, .sentinel, .pinned], laidTests := true, laidLooks := .later }
def InlineParsesCardSaid : Prop := Claim7.holds Tryz.pinned (.plain (OpenSpec.ofChange inlineParsesSpec)) inlineParsesCard

/-- THE TIED CARD OF 'incipitlaw14.InlineWell'. -/
def inlineWellCard : Claim7 := { stood := { row := inlineWellRow, standIns := [], harness := (true, "f58024ac784f0898665aac4b350793aee40a702f6ae27606204ea0790a920afd"), looks := true }, kinds := [], alts := [], laidByText := true, laidKinds := [.data, .data, .data, .data, .sentinel, .sentinel, .pinned], laidTests := true, laidLooks := .later }
def InlineWellCardSaid : Prop := Claim7.holds Tryz.pinned (.plain (OpenSpec.ofChange inlineWellSpec)) inlineWellCard

/-- THE TIED CARD OF 'incipitlaw14.InlinePlain'. -/
def inlinePlainCard : Claim7 := { stood := { row := inlinePlainRow, standIns := [], harness := (true, "f58024ac784f0898665aac4b350793aee40a702f6ae27606204ea0790a920afd"), looks := true }, kinds := [], alts := [], laidByText := true, laidKinds := [.data, .data, .data, .data, .sentinel, .sentinel, .pinned], laidTests := true, laidLooks := .later }
def InlinePlainCardSaid : Prop := Claim7.holds Tryz.pinned (.plain (OpenSpec.ofChange inlinePlainSpec)) inlinePlainCard

/-- THE TIED CARD OF 'incipitlaw14.InlineMasks'. -/
def inlineMasksCard : Claim7 := { stood := { row := inlineMasksRow, standIns := [], harness := (true, "f58024ac784f0898665aac4b350793aee40a702f6ae27606204ea0790a920afd"), looks := true }, kinds := [], alts := [], laidByText := true, laidKinds := [.data, .data, .data, .data, .sentinel, .sentinel, .pinned], laidTests := true, laidLooks := .later }
def InlineMasksCardSaid : Prop := Claim7.holds Tryz.pinned (.plain (OpenSpec.ofChange inlineMasksSpec)) inlineMasksCard

/-- THE TIED CARD OF 'incipitlaw14.InlineLinks'. -/
def inlineLinksCard : Claim7 := { stood := { row := inlineLinksRow, standIns := [], harness := (true, "f58024ac784f0898665aac4b350793aee40a702f6ae27606204ea0790a920afd"), looks := true }, kinds := [], alts := [], laidByText := true, laidKinds := [.data, .data, .data, .data, .sentinel, .sentinel, .pinned], laidTests := true, laidLooks := .later }
def InlineLinksCardSaid : Prop := Claim7.holds Tryz.pinned (.plain (OpenSpec.ofChange inlineLinksSpec)) inlineLinksCard

/-- THE SECOND FORM's CARD OF 'incipitlaw14.InlineEmphs'. -/
def inlineEmphsUptoCard : Claim7 := { stood := { row := inlineEmphsUptoRow, standIns := [], harness := (true, "f58024ac784f0898665aac4b350793aee40a702f6ae27606204ea0790a920afd"), looks := true }, kinds := [], alts := [], laidByText := true, laidKinds := [.data, .data, .data, .data, .sentinel, .sentinel, .pinned], laidTests := true, laidLooks := .later }
def InlineEmphsUptoCardSaid : Prop := Claim7.holds Tryz.pinned (.plain (OpenSpec.upto inlineEmphsSpec)) inlineEmphsUptoCard

/-- THE SECOND FORM's CARD OF 'incipitlaw14.InlineBreaks'. -/
def inlineBreaksUptoCard : Claim7 := { stood := { row := inlineBreaksUptoRow, standIns := [], harness := (true, "f58024ac784f0898665aac4b350793aee40a702f6ae27606204ea0790a920afd"), looks := true }, kinds := [], alts := [], laidByText := true, laidKinds := [.data, .data, .data, .data, .sentinel, .sentinel, .pinned], laidTests := true, laidLooks := .later }
def InlineBreaksUptoCardSaid : Prop := Claim7.holds Tryz.pinned (.plain (OpenSpec.upto inlineBreaksSpec)) inlineBreaksUptoCard

/-- THE SECOND FORM's CARD OF 'incipitlaw14.InlineParses'. -/
def inlineParsesUptoCard : Claim7 := { stood := { row := inlineParsesUptoRow, standIns := [], harness := (true, "f58024ac784f0898665aac4b350793aee40a702f6ae27606204ea0790a920afd"), looks := true }, kinds := [], alts := [], laidByText := true, laidKinds := [.data, .data, .data, .data, .sentinel, .sentinel, .pinned], laidTests := true, laidLooks := .later }
def InlineParsesUptoCardSaid : Prop := Claim7.holds Tryz.pinned (.plain (OpenSpec.upto inlineParsesSpec)) inlineParsesUptoCard

/-- THE SECOND FORM's CARD OF 'incipitlaw14.InlineWell'. -/
def inlineWellUptoCard : Claim7 := { stood := { row := inlineWellUptoRow, standIns := [], harness := (true, "f58024ac784f0898665aac4b350793aee40a702f6ae27606204ea0790a920afd"), looks := true }, kinds := [], alts := [], laidByText := true, laidKinds := [.data, .data, .data, .data, .sentinel, .sentinel, .pinned], laidTests := true, laidLooks := .later }
def InlineWellUptoCardSaid : Prop := Claim7.holds Tryz.pinned (.plain (OpenSpec.upto inlineWellSpec)) inlineWellUptoCard

/-- THE SECOND FORM's CARD OF 'incipitlaw14.InlinePlain'. -/
def inlinePlainUptoCard : Claim7 := { stood := { row := inlinePlainUptoRow, standIns := [], harness := (true, "f58024ac784f0898665aac4b350793aee40a702f6ae27606204ea0790a920afd"), looks := true }, kinds := [], alts := [], laidByText := true, laidKinds := [.data, .data, .data, .data, .sentinel, .sentinel, .pinned], laidTests := true, laidLooks := .later }
def InlinePlainUptoCardSaid : Prop := Claim7.holds Tryz.pinned (.plain (OpenSpec.upto inlinePlainSpec)) inlinePlainUptoCard

/-- THE SECOND FORM's CARD OF 'incipitlaw14.InlineMasks'. -/
def inlineMasksUptoCard : Claim7 := { stood := { row := inlineMasksUptoRow, standIns := [], harness := (true, "f58024ac784f0898665aac4b350793aee40a702f6ae27606204ea0790a920afd"), looks := true }, kinds := [], alts := [], laidByText := true, laidKinds := [.data, .data, .data, .data, .sentinel, .sentinel, .pinned], laidTests := true, laidLooks := .later }
def InlineMasksUptoCardSaid : Prop := Claim7.holds Tryz.pinned (.plain (OpenSpec.upto inlineMasksSpec)) inlineMasksUptoCard

/-- THE SECOND FORM's CARD OF 'incipitlaw14.InlineLinks'. -/
def inlineLinksUptoCard : Claim7 := { stood := { row := inlineLinksUptoRow, standIns := [], harness := (true, "f58024ac784f0898665aac4b350793aee40a702f6ae27606204ea0790a920afd"), looks := true }, kinds := [], alts := [], laidByText := true, laidKinds := [.data, .data, .data, .data, .sentinel, .sentinel, .pinned], laidTests := true, laidLooks := .later }
def InlineLinksUptoCardSaid : Prop := Claim7.holds Tryz.pinned (.plain (OpenSpec.upto inlineLinksSpec)) inlineLinksUptoCard
end Rows
end Go.Proofs.YtjocbifjmchbcaaGreatDoor
