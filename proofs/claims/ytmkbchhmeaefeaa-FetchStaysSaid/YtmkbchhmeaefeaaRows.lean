/-
  No cell of these rows narrows 'for every input' (looked for: loops, veiled, ifaces, maps, wideKeys, modest, calm, conditions, laid).
  DERIVED. THE GIVEN ROWS OF THIS SEAT. 9 by the template 'for every input the law returns true; each argument reads behind the call as it read before'; 0 by the template 'total and deterministic' (their statements: YtmkbchhmeaefeaaTotals.lean).
  GIVEN WITH THE SEED: the statements are not yours to turn. If you find one false, say at which input.
  Laid BY PROGRAM, IN A SANDBOX (cutbox-rows.mjs): the forced cells as the released guide's own fill.sh prints them over the translation 860371047f9517c3… (all of the seat's roots in one cut). By AI agents, Wed Nov 11 2026. No macro, syntax, notation, axiom, sorry.
-/
import Derived.Test.YtmkbchhmeaefeaaChecked
import GoSem.Claim
import GoSem.ClaimJoined
import GoSem.ClaimMapViews
import Derived.JoinedTies
import Derived.KernelRfl
namespace Go.Proofs.Ytmkbchhmeaefeaa
/- THE CELL 'sum', in the pinned program and in every row, IS THE sha256 OF THE DUMP (.gsa) THAT YtmkbchhmeaefeaaProg.lean LOADS. Nothing in Lean hashes anything: it is a label: what it is worth is what the hold of that sum in a sandbox is worth. -/
noncomputable def Try.pinned : Pinned := { name := "ytmkbchhmeaefeaa", sum := "860371047f9517c371779f5a1fbe7e407ed385c20941793e8606fcc1e44f6eeb", checked := Try.checked }
namespace Rows
def none {H : Type} : Left H := { results := [], args := [] }

/-- 'suturelaw01.CrcParts': WHATEVER THE INPUT: true; the input reads as it did. -/
def crcPartsSpec : ChangeSpec := { name := "crcParts", fn := fun _ => fun
  | [d1, d2, d3] => { results := [.lit (.bool true)], args := [d1, d2, d3] }
  | _ => none }
def crcPartsRow : OpenClaim := { program := "ytmkbchhmeaefeaa", sum := "860371047f9517c371779f5a1fbe7e407ed385c20941793e8606fcc1e44f6eeb", func := "suture/suturelaw01.CrcParts", spec := "crcParts", unfollowed := true, recurses := true, apart := false }
def CrcPartsSaid : Prop := crcPartsRow.holds Try.pinned (OpenSpec.ofChange crcPartsSpec)

/-- ITS FALSE NEIGHBOUR: 'it returns false'. Refute it at one input. -/
def crcPartsWrong : ChangeSpec := { name := "crcParts", fn := fun _ => fun
  | [d1, d2, d3] => { results := [.lit (.bool false)], args := [d1, d2, d3] }
  | _ => none }
def CrcPartsWrongFalsely : Prop := crcPartsRow.holds Try.pinned (OpenSpec.ofChange crcPartsWrong)

/-- 'suturelaw01.CrcBurst': WHATEVER THE INPUT: true; the input reads as it did. -/
def crcBurstSpec : ChangeSpec := { name := "crcBurst", fn := fun _ => fun
  | [d1, d2, d3] => { results := [.lit (.bool true)], args := [d1, d2, d3] }
  | _ => none }
def crcBurstRow : OpenClaim := { program := "ytmkbchhmeaefeaa", sum := "860371047f9517c371779f5a1fbe7e407ed385c20941793e8606fcc1e44f6eeb", func := "suture/suturelaw01.CrcBurst", spec := "crcBurst", unfollowed := true, recurses := true, apart := false }
def CrcBurstSaid : Prop := crcBurstRow.holds Try.pinned (OpenSpec.ofChange crcBurstSpec)

/-- ITS FALSE NEIGHBOUR: 'it returns false'. Refute it at one input. -/
def crcBurstWrong : ChangeSpec := { name := "crcBurst", fn := fun _ => fun
  | [d1, d2, d3] => { results := [.lit (.bool false)], args := [d1, d2, d3] }
  | _ => none }
def CrcBurstWrongFalsely : Prop := crcBurstRow.holds Try.pinned (OpenSpec.ofChange crcBurstWrong)

/-- 'suturelaw01.CrcThree': WHATEVER THE INPUT: true; the input reads as it did. -/
def crcThreeSpec : ChangeSpec := { name := "crcThree", fn := fun _ => fun
  | [d1, d2, d3] => { results := [.lit (.bool true)], args := [d1, d2, d3] }
  | _ => none }
def crcThreeRow : OpenClaim := { program := "ytmkbchhmeaefeaa", sum := "860371047f9517c371779f5a1fbe7e407ed385c20941793e8606fcc1e44f6eeb", func := "suture/suturelaw01.CrcThree", spec := "crcThree", unfollowed := true, recurses := true, apart := false }
def CrcThreeSaid : Prop := crcThreeRow.holds Try.pinned (OpenSpec.ofChange crcThreeSpec)

/-- ITS FALSE NEIGHBOUR: 'it returns false'. Refute it at one input. -/
def crcThreeWrong : ChangeSpec := { name := "crcThree", fn := fun _ => fun
  | [d1, d2, d3] => { results := [.lit (.bool false)], args := [d1, d2, d3] }
  | _ => none }
def CrcThreeWrongFalsely : Prop := crcThreeRow.holds Try.pinned (OpenSpec.ofChange crcThreeWrong)

/-- 'suturelaw11.FetchStays': WHATEVER THE INPUT: true; the input reads as it did. -/
def fetchStaysSpec : ChangeSpec := { name := "fetchStays", fn := fun _ => fun
  | [d1, d2, d3, d4, d5, d6, d7] => { results := [.lit (.bool true)], args := [d1, d2, d3, d4, d5, d6, d7] }
  | _ => none }
def fetchStaysRow : OpenClaim := { program := "ytmkbchhmeaefeaa", sum := "860371047f9517c371779f5a1fbe7e407ed385c20941793e8606fcc1e44f6eeb", func := "suture/suturelaw11.FetchStays", spec := "fetchStays", unfollowed := true, recurses := true, apart := false }
def FetchStaysSaid : Prop := fetchStaysRow.holds Try.pinned (OpenSpec.ofChange fetchStaysSpec)

/-- ITS FALSE NEIGHBOUR: 'it returns false'. Refute it at one input. -/
def fetchStaysWrong : ChangeSpec := { name := "fetchStays", fn := fun _ => fun
  | [d1, d2, d3, d4, d5, d6, d7] => { results := [.lit (.bool false)], args := [d1, d2, d3, d4, d5, d6, d7] }
  | _ => none }
def FetchStaysWrongFalsely : Prop := fetchStaysRow.holds Try.pinned (OpenSpec.ofChange fetchStaysWrong)

/-- 'suturelaw11.FetchBad': WHATEVER THE INPUT: true; the input reads as it did. -/
def fetchBadSpec : ChangeSpec := { name := "fetchBad", fn := fun _ => fun
  | [d1, d2] => { results := [.lit (.bool true)], args := [d1, d2] }
  | _ => none }
def fetchBadRow : OpenClaim := { program := "ytmkbchhmeaefeaa", sum := "860371047f9517c371779f5a1fbe7e407ed385c20941793e8606fcc1e44f6eeb", func := "suture/suturelaw11.FetchBad", spec := "fetchBad", unfollowed := true, recurses := true, apart := false }
def FetchBadSaid : Prop := fetchBadRow.holds Try.pinned (OpenSpec.ofChange fetchBadSpec)

/-- ITS FALSE NEIGHBOUR: 'it returns false'. Refute it at one input. -/
def fetchBadWrong : ChangeSpec := { name := "fetchBad", fn := fun _ => fun
  | [d1, d2] => { results := [.lit (.bool false)], args := [d1, d2] }
  | _ => none }
def FetchBadWrongFalsely : Prop := fetchBadRow.holds Try.pinned (OpenSpec.ofChange fetchBadWrong)

/-- 'suturelaw01.CrcSteps': WHATEVER THE INPUT: true; the input reads as it did. -/
def crcStepsSpec : ChangeSpec := { name := "crcSteps", fn := fun _ => fun
  | [d1, d2, d3, d4] => { results := [.lit (.bool true)], args := [d1, d2, d3, d4] }
  | _ => none }
def crcStepsRow : OpenClaim := { program := "ytmkbchhmeaefeaa", sum := "860371047f9517c371779f5a1fbe7e407ed385c20941793e8606fcc1e44f6eeb", func := "suture/suturelaw01.CrcSteps", spec := "crcSteps", unfollowed := true, recurses := true, apart := false }
def CrcStepsSaid : Prop := crcStepsRow.holds Try.pinned (OpenSpec.ofChange crcStepsSpec)

/-- ITS FALSE NEIGHBOUR: 'it returns false'. Refute it at one input. -/
def crcStepsWrong : ChangeSpec := { name := "crcSteps", fn := fun _ => fun
  | [d1, d2, d3, d4] => { results := [.lit (.bool false)], args := [d1, d2, d3, d4] }
  | _ => none }
def CrcStepsWrongFalsely : Prop := crcStepsRow.holds Try.pinned (OpenSpec.ofChange crcStepsWrong)

/-- 'suturelaw01.CrcTells': WHATEVER THE INPUT: true; the input reads as it did. -/
def crcTellsSpec : ChangeSpec := { name := "crcTells", fn := fun _ => fun
  | [d1, d2, d3, d4] => { results := [.lit (.bool true)], args := [d1, d2, d3, d4] }
  | _ => none }
def crcTellsRow : OpenClaim := { program := "ytmkbchhmeaefeaa", sum := "860371047f9517c371779f5a1fbe7e407ed385c20941793e8606fcc1e44f6eeb", func := "suture/suturelaw01.CrcTells", spec := "crcTells", unfollowed := true, recurses := true, apart := false }
def CrcTellsSaid : Prop := crcTellsRow.holds Try.pinned (OpenSpec.ofChange crcTellsSpec)

/-- ITS FALSE NEIGHBOUR: 'it returns false'. Refute it at one input. -/
def crcTellsWrong : ChangeSpec := { name := "crcTells", fn := fun _ => fun
  | [d1, d2, d3, d4] => { results := [.lit (.bool false)], args := [d1, d2, d3, d4] }
  | _ => none }
def CrcTellsWrongFalsely : Prop := crcTellsRow.holds Try.pinned (OpenSpec.ofChange crcTellsWrong)

/-- 'suturelaw11.FetchMends': WHATEVER THE INPUT: true; the input reads as it did. -/
def fetchMendsSpec : ChangeSpec := { name := "fetchMends", fn := fun _ => fun
  | [d1, d2] => { results := [.lit (.bool true)], args := [d1, d2] }
  | _ => none }
def fetchMendsRow : OpenClaim := { program := "ytmkbchhmeaefeaa", sum := "860371047f9517c371779f5a1fbe7e407ed385c20941793e8606fcc1e44f6eeb", func := "suture/suturelaw11.FetchMends", spec := "fetchMends", unfollowed := true, recurses := true, apart := false }
def FetchMendsSaid : Prop := fetchMendsRow.holds Try.pinned (OpenSpec.ofChange fetchMendsSpec)

/-- ITS FALSE NEIGHBOUR: 'it returns false'. Refute it at one input. -/
def fetchMendsWrong : ChangeSpec := { name := "fetchMends", fn := fun _ => fun
  | [d1, d2] => { results := [.lit (.bool false)], args := [d1, d2] }
  | _ => none }
def FetchMendsWrongFalsely : Prop := fetchMendsRow.holds Try.pinned (OpenSpec.ofChange fetchMendsWrong)

/-- 'suturelaw11.FetchWrites': WHATEVER THE INPUT: true; the input reads as it did. -/
def fetchWritesSpec : ChangeSpec := { name := "fetchWrites", fn := fun _ => fun
  | [d1, d2] => { results := [.lit (.bool true)], args := [d1, d2] }
  | _ => none }
def fetchWritesRow : OpenClaim := { program := "ytmkbchhmeaefeaa", sum := "860371047f9517c371779f5a1fbe7e407ed385c20941793e8606fcc1e44f6eeb", func := "suture/suturelaw11.FetchWrites", spec := "fetchWrites", unfollowed := true, recurses := true, apart := false }
def FetchWritesSaid : Prop := fetchWritesRow.holds Try.pinned (OpenSpec.ofChange fetchWritesSpec)

/-- ITS FALSE NEIGHBOUR: 'it returns false'. Refute it at one input. -/
def fetchWritesWrong : ChangeSpec := { name := "fetchWrites", fn := fun _ => fun
  | [d1, d2] => { results := [.lit (.bool false)], args := [d1, d2] }
  | _ => none }
def FetchWritesWrongFalsely : Prop := fetchWritesRow.holds Try.pinned (OpenSpec.ofChange fetchWritesWrong)

/- THE SECOND FORM. 'bulk': how many values and letters a reading holds, each counted each time it is reached (what is shared counts as often as it is met; a slice's spare places count too). A statement '..UptoSaid' is the law's where the arguments, and the package variables that the reading takes, are together of bulk at most 1048576: NARROWER than '..Said'. Prove '..Said' where nothing that the law and all that it calls make is longer than what came in: it says more and counts as full. Else prove '..UptoSaid'. A law counts once. -/
mutual
def uptoBulk {H : Type} : DataW H → Nat
  | .lit (.string bytes) => bytes.length + 1
  | .lit _ => 1
  | .nil => 1
  | .ptr d => uptoBulk d + 1
  | .slice elems spare => uptoBulkAll elems + uptoBulkAll spare + 1
  | .agg parts => uptoBulkAll parts + 1
  | .iface _ d => uptoBulk d + 1
  | .map entries => uptoBulkEntries entries + 1
  | .held _ => 1
def uptoBulkAll {H : Type} : List (DataW H) → Nat
  | [] => 0
  | d :: r => uptoBulk d + uptoBulkAll r
def uptoBulkEntries {H : Type} : List (Lit × DataW H) → Nat
  | [] => 0
  | x :: r => uptoBulkEntry x + uptoBulkEntries r
def uptoBulkEntry {H : Type} : Lit × DataW H → Nat
  | (.string bytes, d) => bytes.length + uptoBulk d + 1
  | (_, d) => uptoBulk d + 1
 end
def uptoSmall : (H : Type) → List (DataW H) → Bool := fun _ ds => decide (uptoBulkAll ds ≤ 1048576)
def OpenSpec.upto (s : _root_.Go.ChangeSpec) : _root_.Go.OpenSpec := { _root_.Go.OpenSpec.ofChange s with cond := some uptoSmall }

/-- 'suturelaw01.CrcParts', WHERE WHAT IT READS IS OF BULK AT MOST 1048576: true; the input reads as it did. -/
def crcPartsUptoRow : OpenClaim := { program := "ytmkbchhmeaefeaa", sum := "860371047f9517c371779f5a1fbe7e407ed385c20941793e8606fcc1e44f6eeb", func := "suture/suturelaw01.CrcParts", spec := "crcParts", unfollowed := true, recurses := true, apart := false, narrowed := true }
def CrcPartsUptoSaid : Prop := crcPartsUptoRow.holds Try.pinned (OpenSpec.upto crcPartsSpec)

/-- 'suturelaw01.CrcBurst', WHERE WHAT IT READS IS OF BULK AT MOST 1048576: true; the input reads as it did. -/
def crcBurstUptoRow : OpenClaim := { program := "ytmkbchhmeaefeaa", sum := "860371047f9517c371779f5a1fbe7e407ed385c20941793e8606fcc1e44f6eeb", func := "suture/suturelaw01.CrcBurst", spec := "crcBurst", unfollowed := true, recurses := true, apart := false, narrowed := true }
def CrcBurstUptoSaid : Prop := crcBurstUptoRow.holds Try.pinned (OpenSpec.upto crcBurstSpec)

/-- 'suturelaw01.CrcThree', WHERE WHAT IT READS IS OF BULK AT MOST 1048576: true; the input reads as it did. -/
def crcThreeUptoRow : OpenClaim := { program := "ytmkbchhmeaefeaa", sum := "860371047f9517c371779f5a1fbe7e407ed385c20941793e8606fcc1e44f6eeb", func := "suture/suturelaw01.CrcThree", spec := "crcThree", unfollowed := true, recurses := true, apart := false, narrowed := true }
def CrcThreeUptoSaid : Prop := crcThreeUptoRow.holds Try.pinned (OpenSpec.upto crcThreeSpec)

/-- 'suturelaw11.FetchStays', WHERE WHAT IT READS IS OF BULK AT MOST 1048576: true; the input reads as it did. -/
def fetchStaysUptoRow : OpenClaim := { program := "ytmkbchhmeaefeaa", sum := "860371047f9517c371779f5a1fbe7e407ed385c20941793e8606fcc1e44f6eeb", func := "suture/suturelaw11.FetchStays", spec := "fetchStays", unfollowed := true, recurses := true, apart := false, narrowed := true }
def FetchStaysUptoSaid : Prop := fetchStaysUptoRow.holds Try.pinned (OpenSpec.upto fetchStaysSpec)

/-- 'suturelaw11.FetchBad', WHERE WHAT IT READS IS OF BULK AT MOST 1048576: true; the input reads as it did. -/
def fetchBadUptoRow : OpenClaim := { program := "ytmkbchhmeaefeaa", sum := "860371047f9517c371779f5a1fbe7e407ed385c20941793e8606fcc1e44f6eeb", func := "suture/suturelaw11.FetchBad", spec := "fetchBad", unfollowed := true, recurses := true, apart := false, narrowed := true }
def FetchBadUptoSaid : Prop := fetchBadUptoRow.holds Try.pinned (OpenSpec.upto fetchBadSpec)

/-- 'suturelaw01.CrcSteps', WHERE WHAT IT READS IS OF BULK AT MOST 1048576: true; the input reads as it did. -/
def crcStepsUptoRow : OpenClaim := { program := "ytmkbchhmeaefeaa", sum := "860371047f9517c371779f5a1fbe7e407ed385c20941793e8606fcc1e44f6eeb", func := "suture/suturelaw01.CrcSteps", spec := "crcSteps", unfollowed := true, recurses := true, apart := false, narrowed := true }
def CrcStepsUptoSaid : Prop := crcStepsUptoRow.holds Try.pinned (OpenSpec.upto crcStepsSpec)

/-- 'suturelaw01.CrcTells', WHERE WHAT IT READS IS OF BULK AT MOST 1048576: true; the input reads as it did. -/
def crcTellsUptoRow : OpenClaim := { program := "ytmkbchhmeaefeaa", sum := "860371047f9517c371779f5a1fbe7e407ed385c20941793e8606fcc1e44f6eeb", func := "suture/suturelaw01.CrcTells", spec := "crcTells", unfollowed := true, recurses := true, apart := false, narrowed := true }
def CrcTellsUptoSaid : Prop := crcTellsUptoRow.holds Try.pinned (OpenSpec.upto crcTellsSpec)

/-- 'suturelaw11.FetchMends', WHERE WHAT IT READS IS OF BULK AT MOST 1048576: true; the input reads as it did. -/
def fetchMendsUptoRow : OpenClaim := { program := "ytmkbchhmeaefeaa", sum := "860371047f9517c371779f5a1fbe7e407ed385c20941793e8606fcc1e44f6eeb", func := "suture/suturelaw11.FetchMends", spec := "fetchMends", unfollowed := true, recurses := true, apart := false, narrowed := true }
def FetchMendsUptoSaid : Prop := fetchMendsUptoRow.holds Try.pinned (OpenSpec.upto fetchMendsSpec)

/-- 'suturelaw11.FetchWrites', WHERE WHAT IT READS IS OF BULK AT MOST 1048576: true; the input reads as it did. -/
def fetchWritesUptoRow : OpenClaim := { program := "ytmkbchhmeaefeaa", sum := "860371047f9517c371779f5a1fbe7e407ed385c20941793e8606fcc1e44f6eeb", func := "suture/suturelaw11.FetchWrites", spec := "fetchWrites", unfollowed := true, recurses := true, apart := false, narrowed := true }
def FetchWritesUptoSaid : Prop := fetchWritesUptoRow.holds Try.pinned (OpenSpec.upto fetchWritesSpec)

end Rows
end Go.Proofs.Ytmkbchhmeaefeaa
