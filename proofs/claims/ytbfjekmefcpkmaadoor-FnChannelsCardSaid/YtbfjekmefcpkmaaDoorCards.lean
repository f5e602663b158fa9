/-
  DERIVED. GIVEN WITH THE SEED: THE CARDS: each row of YtbfjekmefcpkmaaDoorRows.lean that lists a variable, with what it lists TIED to the program's text (the seventh form; the later family's looks); each row that meets fmt, with fmt's text TOLD by the authors' own Lean function (tested against real Go, not proved from fmt's source: count such statements apart). THE CARD IS WHAT COUNTS. Prove the row's statement (the work); the ties are given (YtbfjekmefcpkmaaDoorTie.lean); close each card by the builder's one call (the guide's Derived/Test/ToyasCard.lean, 'card_holds'). Laid BY PROGRAM, IN A SANDBOX (cutbox-door.mjs). By AI agents, Wed Nov 11 2026. No macro, syntax, notation, axiom, sorry.
-/
import Derived.Test.YtbfjekmefcpkmaaDoorRows
import GoSem.ClaimSeven
namespace Go.Proofs.YtbfjekmefcpkmaaDoor
namespace Rows

/-- THE TIED CARD OF 'laws.FnChannels'. -/
def fnChannelsCard : Claim7 := { stood := { row := fnChannelsRow, standIns := [], harness := (true, "2d36519015edfeb1e1a356cf8fe2a786681233b5663281126726f1a9757452bc"), looks := false }, kinds := [], alts := [], laidByText := true, laidKinds := [.data, .data], laidTests := true, laidLooks := .later }
def FnChannelsCardSaid : Prop := Claim7.holds Tryd.pinned (.plain (OpenSpec.ofChange fnChannelsSpec)) fnChannelsCard

/-- THE TIED CARD OF 'laws.FnExactFewestTracks'. -/
def fnExactFewestTracksCard : Claim7 := { stood := { row := fnExactFewestTracksRow, standIns := [], harness := (true, "2d36519015edfeb1e1a356cf8fe2a786681233b5663281126726f1a9757452bc"), looks := false }, kinds := [], alts := [], laidByText := true, laidKinds := [.data, .data], laidTests := true, laidLooks := .later }
def FnExactFewestTracksCardSaid : Prop := Claim7.holds Tryd.pinned (.plain (OpenSpec.ofChange fnExactFewestTracksSpec)) fnExactFewestTracksCard

/-- THE TIED CARD OF 'laws.FnExactFewestWithDoglegs'. -/
def fnExactFewestWithDoglegsCard : Claim7 := { stood := { row := fnExactFewestWithDoglegsRow, standIns := [], harness := (true, "2d36519015edfeb1e1a356cf8fe2a786681233b5663281126726f1a9757452bc"), looks := false }, kinds := [], alts := [], laidByText := true, laidKinds := [.data, .data], laidTests := true, laidLooks := .later }
def FnExactFewestWithDoglegsCardSaid : Prop := Claim7.holds Tryd.pinned (.plain (OpenSpec.ofChange fnExactFewestWithDoglegsSpec)) fnExactFewestWithDoglegsCard

/-- THE TIED CARD OF 'laws.FnDoglegs'. -/
def fnDoglegsCard : Claim7 := { stood := { row := fnDoglegsRow, standIns := [], harness := (true, "2d36519015edfeb1e1a356cf8fe2a786681233b5663281126726f1a9757452bc"), looks := false }, kinds := [], alts := [], laidByText := true, laidKinds := [.data, .data], laidTests := true, laidLooks := .later }
def FnDoglegsCardSaid : Prop := Claim7.holds Tryd.pinned (.plain (OpenSpec.ofChange fnDoglegsSpec)) fnDoglegsCard

/-- THE SECOND FORM's CARD OF 'laws.FnChannels'. -/
def fnChannelsUptoCard : Claim7 := { stood := { row := fnChannelsUptoRow, standIns := [], harness := (true, "2d36519015edfeb1e1a356cf8fe2a786681233b5663281126726f1a9757452bc"), looks := false }, kinds := [], alts := [], laidByText := true, laidKinds := [.data, .data], laidTests := true, laidLooks := .later }
def FnChannelsUptoCardSaid : Prop := Claim7.holds Tryd.pinned (.plain (OpenSpec.upto fnChannelsSpec)) fnChannelsUptoCard

/-- THE SECOND FORM's CARD OF 'laws.FnExactFewestTracks'. -/
def fnExactFewestTracksUptoCard : Claim7 := { stood := { row := fnExactFewestTracksUptoRow, standIns := [], harness := (true, "2d36519015edfeb1e1a356cf8fe2a786681233b5663281126726f1a9757452bc"), looks := false }, kinds := [], alts := [], laidByText := true, laidKinds := [.data, .data], laidTests := true, laidLooks := .later }
def FnExactFewestTracksUptoCardSaid : Prop := Claim7.holds Tryd.pinned (.plain (OpenSpec.upto fnExactFewestTracksSpec)) fnExactFewestTracksUptoCard

/-- THE SECOND FORM's CARD OF 'laws.FnExactFewestWithDoglegs'. -/
def fnExactFewestWithDoglegsUptoCard : Claim7 := { stood := { row := fnExactFewestWithDoglegsUptoRow, standIns := [], harness := (true, "2d36519015edfeb1e1a356cf8fe2a786681233b5663281126726f1a9757452bc"), looks := false }, kinds := [], alts := [], laidByText := true, laidKinds := [.data, .data], laidTests := true, laidLooks := .later }
def FnExactFewestWithDoglegsUptoCardSaid : Prop := Claim7.holds Tryd.pinned (.plain (OpenSpec.upto fnExactFewestWithDoglegsSpec)) fnExactFewestWithDoglegsUptoCard

/-- THE SECOND FORM's CARD OF 'laws.FnDoglegs'. -/
def fnDoglegsUptoCard : Claim7 := { stood := { row := fnDoglegsUptoRow, standIns := [], harness := (true, "2d36519015edfeb1e1a356cf8fe2a786681233b5663281126726f1a9757452bc"), looks := false }, kinds := [], alts := [], laidByText := true, laidKinds := [.data, .data], laidTests := true, laidLooks := .later }
def FnDoglegsUptoCardSaid : Prop := Claim7.holds Tryd.pinned (.plain (OpenSpec.upto fnDoglegsSpec)) fnDoglegsUptoCard
end Rows
end Go.Proofs.YtbfjekmefcpkmaaDoor
