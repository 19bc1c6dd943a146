/-
  DERIVED. GIVEN WITH THE SEED: THE CARDS: each row of YtannkglddbaalaaDoorRows.lean that lists a variable, with what it lists TIED to the program's text (the seventh form; the later family's looks); each row that meets fmt, with fmt's text TOLD by the authors' own Lean function (tested against real Go, not proved from fmt's source: count such statements apart). THE CARD IS WHAT COUNTS. Prove the row's statement (the work); the ties are given (YtannkglddbaalaaDoorTie.lean); close each card by the builder's one call (the guide's Derived/Test/ToyasCard.lean, 'card_holds'). Laid BY PROGRAM, IN A SANDBOX (cutbox-door.mjs). By AI agents, Wed Nov 11 2026. No macro, syntax, notation, axiom, sorry.
-/
import Derived.Test.YtannkglddbaalaaDoorRows
import GoSem.ClaimSeven
namespace Go.Proofs.YtannkglddbaalaaDoor
namespace Rows

/-- THE TIED CARD OF 'laws.FnSegmentText'. -/
def fnSegmentTextCard : Claim7 := { stood := { row := fnSegmentTextRow, standIns := [], harness := (true, "5150f80cb97e227a17a1931f55c5ea4afd72d0e19b7e7c3eca49945fec5e5691"), looks := false }, kinds := [], alts := [], laidByText := true, laidKinds := [.data, .data, .data, .data, .sentinel, .pinned], laidTests := true, laidLooks := .later }
def FnSegmentTextCardSaid : Prop := Claim7.holds Tryd.pinned (.plain (OpenSpec.ofChange fnSegmentTextSpec)) fnSegmentTextCard

/-- THE TIED CARD OF 'laws.FnExactReadSegment'. -/
def fnExactReadSegmentCard : Claim7 := { stood := { row := fnExactReadSegmentRow, standIns := [], harness := (true, "5150f80cb97e227a17a1931f55c5ea4afd72d0e19b7e7c3eca49945fec5e5691"), looks := false }, kinds := [], alts := [], laidByText := true, laidKinds := [.data, .data, .data, .data, .sentinel, .pinned], laidTests := true, laidLooks := .later }
def FnExactReadSegmentCardSaid : Prop := Claim7.holds Tryd.pinned (.plain (OpenSpec.ofChange fnExactReadSegmentSpec)) fnExactReadSegmentCard

/-- THE SECOND FORM's CARD OF 'laws.FnSegmentText'. -/
def fnSegmentTextUptoCard : Claim7 := { stood := { row := fnSegmentTextUptoRow, standIns := [], harness := (true, "5150f80cb97e227a17a1931f55c5ea4afd72d0e19b7e7c3eca49945fec5e5691"), looks := false }, kinds := [], alts := [], laidByText := true, laidKinds := [.data, .data, .data, .data, .sentinel, .pinned], laidTests := true, laidLooks := .later }
def FnSegmentTextUptoCardSaid : Prop := Claim7.holds Tryd.pinned (.plain (OpenSpec.upto fnSegmentTextSpec)) fnSegmentTextUptoCard

/-- THE SECOND FORM's CARD OF 'laws.FnExactReadSegment'. -/
def fnExactReadSegmentUptoCard : Claim7 := { stood := { row := fnExactReadSegmentUptoRow, standIns := [], harness := (true, "5150f80cb97e227a17a1931f55c5ea4afd72d0e19b7e7c3eca49945fec5e5691"), looks := false }, kinds := [], alts := [], laidByText := true, laidKinds := [.data, .data, .data, .data, .sentinel, .pinned], laidTests := true, laidLooks := .later }
def FnExactReadSegmentUptoCardSaid : Prop := Claim7.holds Tryd.pinned (.plain (OpenSpec.upto fnExactReadSegmentSpec)) fnExactReadSegmentUptoCard
end Rows
end Go.Proofs.YtannkglddbaalaaDoor
