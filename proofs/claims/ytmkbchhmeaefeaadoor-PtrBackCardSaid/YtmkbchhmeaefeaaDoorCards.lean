/-
  DERIVED. GIVEN WITH THE SEED: THE CARDS: each row of YtmkbchhmeaefeaaDoorRows.lean that lists a variable, with what it lists TIED to the program's text (the seventh form; the later family's looks); each row that meets fmt, with fmt's text TOLD by the authors' own Lean function (tested against real Go, not proved from fmt's source: count such statements apart). THE CARD IS WHAT COUNTS. Prove the row's statement (the work); the ties are given (YtmkbchhmeaefeaaDoorTie.lean); close each card by the builder's one call (the guide's Derived/Test/ToyasCard.lean, 'card_holds'). Laid BY PROGRAM, IN A SANDBOX (cutbox-door.mjs). By AI agents, Wed Nov 11 2026. No macro, syntax, notation, axiom, sorry.
-/
import Derived.Test.YtmkbchhmeaefeaaDoorRows
import GoSem.ClaimSeven
namespace Go.Proofs.YtmkbchhmeaefeaaDoor
namespace Rows

/-- THE TIED CARD OF 'suturelaw05.PtrBack'. -/
def ptrBackCard : Claim7 := { stood := { row := ptrBackRow, standIns := [], harness := (true, "fc52f13fda0a12d95c8e7f06c27ef97ccd71b202f1e34566e50d255c52564542"), looks := false }, kinds := [], alts := [], laidByText := true, laidKinds := [.data], laidTests := true, laidLooks := .later }
def PtrBackCardSaid : Prop := Claim7.holds Tryd.pinned (.plain (OpenSpec.ofChange ptrBackSpec)) ptrBackCard

/-- THE TIED CARD OF 'suturelaw05.PtrFits'. -/
def ptrFitsCard : Claim7 := { stood := { row := ptrFitsRow, standIns := [], harness := (true, "fc52f13fda0a12d95c8e7f06c27ef97ccd71b202f1e34566e50d255c52564542"), looks := false }, kinds := [], alts := [], laidByText := true, laidKinds := [.data], laidTests := true, laidLooks := .later }
def PtrFitsCardSaid : Prop := Claim7.holds Tryd.pinned (.plain (OpenSpec.ofChange ptrFitsSpec)) ptrFitsCard

/-- THE TIED CARD OF 'suturelaw05.PtrWhere'. -/
def ptrWhereCard : Claim7 := { stood := { row := ptrWhereRow, standIns := [], harness := (true, "fc52f13fda0a12d95c8e7f06c27ef97ccd71b202f1e34566e50d255c52564542"), looks := false }, kinds := [], alts := [], laidByText := true, laidKinds := [.data], laidTests := true, laidLooks := .later }
def PtrWhereCardSaid : Prop := Claim7.holds Tryd.pinned (.plain (OpenSpec.ofChange ptrWhereSpec)) ptrWhereCard

/-- THE SECOND FORM's CARD OF 'suturelaw05.PtrBack'. -/
def ptrBackUptoCard : Claim7 := { stood := { row := ptrBackUptoRow, standIns := [], harness := (true, "fc52f13fda0a12d95c8e7f06c27ef97ccd71b202f1e34566e50d255c52564542"), looks := false }, kinds := [], alts := [], laidByText := true, laidKinds := [.data], laidTests := true, laidLooks := .later }
def PtrBackUptoCardSaid : Prop := Claim7.holds Tryd.pinned (.plain (OpenSpec.upto ptrBackSpec)) ptrBackUptoCard

/-- THE SECOND FORM's CARD OF 'suturelaw05.PtrFits'. -/
def ptrFitsUptoCard : Claim7 := { stood := { row := ptrFitsUptoRow, standIns := [], harness := (true, "fc52f13fda0a12d95c8e7f06c27ef97ccd71b202f1e34566e50d255c52564542"), looks := false }, kinds := [], alts := [], laidByText := true, laidKinds := [.data], laidTests := true, laidLooks := .later }
def PtrFitsUptoCardSaid : Prop := Claim7.holds Tryd.pinned (.plain (OpenSpec.upto ptrFitsSpec)) ptrFitsUptoCard

/-- THE SECOND FORM's CARD OF 'suturelaw05.PtrWhere'. -/
def ptrWhereUptoCard : Claim7 := { stood := { row := ptrWhereUptoRow, standIns := [], harness := (true, "fc52f13fda0a12d95c8e7f06c27ef97ccd71b202f1e34566e50d255c52564542"), looks := false }, kinds := [], alts := [], laidByText := true, laidKinds := [.data], laidTests := true, laidLooks := .later }
def PtrWhereUptoCardSaid : Prop := Claim7.holds Tryd.pinned (.plain (OpenSpec.upto ptrWhereSpec)) ptrWhereUptoCard
end Rows
end Go.Proofs.YtmkbchhmeaefeaaDoor
