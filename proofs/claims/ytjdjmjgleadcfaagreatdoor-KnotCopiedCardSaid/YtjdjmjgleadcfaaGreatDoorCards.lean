/-
  DERIVED. GIVEN WITH THE SEED: THE CARDS: each row of YtjdjmjgleadcfaaGreatDoorRows.lean that lists a variable, with what it lists TIED to the program's text (the seventh form; the later family's looks); each row that meets fmt, with fmt's text TOLD by the authors' own Lean function (tested against real Go, not proved from fmt's source: count such statements apart). THE CARD IS WHAT COUNTS. Prove the row's statement (the work); the ties are given (YtjdjmjgleadcfaaGreatDoorTie.lean); close each card by the builder's one call (the guide's Derived/Test/ToyasCard.lean, 'card_holds'). Laid BY PROGRAM, IN A SANDBOX (cutbox-door.mjs). By AI agents, Wed Nov 11 2026. No macro, syntax, notation, axiom, sorry.
-/
import Derived.Test.YtjdjmjgleadcfaaGreatDoorRows
import GoSem.ClaimSeven
namespace Go.Proofs.YtjdjmjgleadcfaaGreatDoor
namespace Rows

/-- THE TIED CARD OF 'hoarstonelaw06.KnotCodes'. -/
def knotCodesCard : Claim7 := { stood := { row := knotCodesRow, standIns := [], harness := (true, "333fd82dcf65be17eb8293ea4d511ec1716d94eafab36992d0c54452200da0c5"), looks := false }, kinds := [], alts := [], laidByText := true, laidKinds := [.data, .data], laidTests := true, laidLooks := .later }
def KnotCodesCardSaid : Prop := Claim7.holds Tryz.pinned (.plain (OpenSpec.ofChange knotCodesSpec)) knotCodesCard

/-- THE TIED CARD OF 'hoarstonelaw06.KnotCopied'. -/
def knotCopiedCard : Claim7 := { stood := { row := knotCopiedRow, standIns := [], harness := (true, "333fd82dcf65be17eb8293ea4d511ec1716d94eafab36992d0c54452200da0c5"), looks := false }, kinds := [], alts := [], laidByText := true, laidKinds := [.data, .data], laidTests := true, laidLooks := .later }
def KnotCopiedCardSaid : Prop := Claim7.holds Tryz.pinned (.plain (OpenSpec.ofChange knotCopiedSpec)) knotCopiedCard

/-- THE SECOND FORM's CARD OF 'hoarstonelaw06.KnotCodes'. -/
def knotCodesUptoCard : Claim7 := { stood := { row := knotCodesUptoRow, standIns := [], harness := (true, "333fd82dcf65be17eb8293ea4d511ec1716d94eafab36992d0c54452200da0c5"), looks := false }, kinds := [], alts := [], laidByText := true, laidKinds := [.data, .data], laidTests := true, laidLooks := .later }
def KnotCodesUptoCardSaid : Prop := Claim7.holds Tryz.pinned (.plain (OpenSpec.upto knotCodesSpec)) knotCodesUptoCard

/-- THE SECOND FORM's CARD OF 'hoarstonelaw06.KnotCopied'. -/
def knotCopiedUptoCard : Claim7 := { stood := { row := knotCopiedUptoRow, standIns := [], harness := (true, "333fd82dcf65be17eb8293ea4d511ec1716d94eafab36992d0c54452200da0c5"), looks := false }, kinds := [], alts := [], laidByText := true, laidKinds := [.data, .data], laidTests := true, laidLooks := .later }
def KnotCopiedUptoCardSaid : Prop := Claim7.holds Tryz.pinned (.plain (OpenSpec.upto knotCopiedSpec)) knotCopiedUptoCard
end Rows
end Go.Proofs.YtjdjmjgleadcfaaGreatDoor
