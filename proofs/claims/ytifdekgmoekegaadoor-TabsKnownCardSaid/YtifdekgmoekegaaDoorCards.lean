/-
  DERIVED. GIVEN WITH THE SEED: THE CARDS: each row of YtifdekgmoekegaaDoorRows.lean that lists a variable, with what it lists TIED to the program's text (the seventh form; the later family's looks); each row that meets fmt, with fmt's text TOLD by the authors' own Lean function (tested against real Go, not proved from fmt's source: count such statements apart). THE CARD IS WHAT COUNTS. Prove the row's statement (the work); the ties are given (YtifdekgmoekegaaDoorTie.lean); close each card by the builder's one call (the guide's Derived/Test/ToyasCard.lean, 'card_holds'). Laid BY PROGRAM, IN A SANDBOX (cutbox-door.mjs). By AI agents, Wed Nov 11 2026. No macro, syntax, notation, axiom, sorry.
-/
import Derived.Test.YtifdekgmoekegaaDoorRows
import GoSem.ClaimSeven
namespace Go.Proofs.YtifdekgmoekegaaDoor
namespace Rows

/-- THE TIED CARD OF 'marqueelaw14.TabsWalks'. -/
def tabsWalksCard : Claim7 := { stood := { row := tabsWalksRow, standIns := [], harness := (true, "5b346fe06d3a8fa3ea9b71b84380687ba7ccb1d2fcc01cdb90c1cf6a8af10bc7"), looks := false }, kinds := [], alts := [], laidByText := true, laidKinds := [.data], laidTests := true, laidLooks := .later }
def TabsWalksCardSaid : Prop := Claim7.holds Tryd.pinned (.plain (OpenSpec.ofChange tabsWalksSpec)) tabsWalksCard

/-- THE TIED CARD OF 'marqueelaw14.TabsBlind'. -/
def tabsBlindCard : Claim7 := { stood := { row := tabsBlindRow, standIns := [], harness := (true, "5b346fe06d3a8fa3ea9b71b84380687ba7ccb1d2fcc01cdb90c1cf6a8af10bc7"), looks := false }, kinds := [], alts := [], laidByText := true, laidKinds := [.data], laidTests := true, laidLooks := .later }
def TabsBlindCardSaid : Prop := Claim7.holds Tryd.pinned (.plain (OpenSpec.ofChange tabsBlindSpec)) tabsBlindCard

/-- THE TIED CARD OF 'marqueelaw14.TabsSets'. -/
def tabsSetsCard : Claim7 := { stood := { row := tabsSetsRow, standIns := [], harness := (true, "5b346fe06d3a8fa3ea9b71b84380687ba7ccb1d2fcc01cdb90c1cf6a8af10bc7"), looks := false }, kinds := [], alts := [], laidByText := true, laidKinds := [.data], laidTests := true, laidLooks := .later }
def TabsSetsCardSaid : Prop := Claim7.holds Tryd.pinned (.plain (OpenSpec.ofChange tabsSetsSpec)) tabsSetsCard

/-- THE TIED CARD OF 'marqueelaw14.TabsSizes'. -/
def tabsSizesCard : Claim7 := { stood := { row := tabsSizesRow, standIns := [], harness := (true, "5b346fe06d3a8fa3ea9b71b84380687ba7ccb1d2fcc01cdb90c1cf6a8af10bc7"), looks := false }, kinds := [], alts := [], laidByText := true, laidKinds := [.data], laidTests := true, laidLooks := .later }
def TabsSizesCardSaid : Prop := Claim7.holds Tryd.pinned (.plain (OpenSpec.ofChange tabsSizesSpec)) tabsSizesCard

/-- THE TIED CARD OF 'marqueelaw14.TabsKnown'. -/
def tabsKnownCard : Claim7 := { stood := { row := tabsKnownRow, standIns := [], harness := (true, "5b346fe06d3a8fa3ea9b71b84380687ba7ccb1d2fcc01cdb90c1cf6a8af10bc7"), looks := false }, kinds := [], alts := [], laidByText := true, laidKinds := [.data], laidTests := true, laidLooks := .later }
def TabsKnownCardSaid : Prop := Claim7.holds Tryd.pinned (.plain (OpenSpec.ofChange tabsKnownSpec)) tabsKnownCard

/-- THE SECOND FORM's CARD OF 'marqueelaw14.TabsWalks'. -/
def tabsWalksUptoCard : Claim7 := { stood := { row := tabsWalksUptoRow, standIns := [], harness := (true, "5b346fe06d3a8fa3ea9b71b84380687ba7ccb1d2fcc01cdb90c1cf6a8af10bc7"), looks := false }, kinds := [], alts := [], laidByText := true, laidKinds := [.data], laidTests := true, laidLooks := .later }
def TabsWalksUptoCardSaid : Prop := Claim7.holds Tryd.pinned (.plain (OpenSpec.upto tabsWalksSpec)) tabsWalksUptoCard

/-- THE SECOND FORM's CARD OF 'marqueelaw14.TabsBlind'. -/
def tabsBlindUptoCard : Claim7 := { stood := { row := tabsBlindUptoRow, standIns := [], harness := (true, "5b346fe06d3a8fa3ea9b71b84380687ba7ccb1d2fcc01cdb90c1cf6a8af10bc7"), looks := false }, kinds := [], alts := [], laidByText := true, laidKinds := [.data], laidTests := true, laidLooks := .later }
def TabsBlindUptoCardSaid : Prop := Claim7.holds Tryd.pinned (.plain (OpenSpec.upto tabsBlindSpec)) tabsBlindUptoCard

/-- THE SECOND FORM's CARD OF 'marqueelaw14.TabsSets'. -/
def tabsSetsUptoCard : Claim7 := { stood := { row := tabsSetsUptoRow, standIns := [], harness := (true, "5b346fe06d3a8fa3ea9b71b84380687ba7ccb1d2fcc01cdb90c1cf6a8af10bc7"), looks := false }, kinds := [], alts := [], laidByText := true, laidKinds := [.data], laidTests := true, laidLooks := .later }
def TabsSetsUptoCardSaid : Prop := Claim7.holds Tryd.pinned (.plain (OpenSpec.upto tabsSetsSpec)) tabsSetsUptoCard

/-- THE SECOND FORM's CARD OF 'marqueelaw14.TabsSizes'. -/
def tabsSizesUptoCard : Claim7 := { stood := { row := tabsSizesUptoRow, standIns := [], harness := (true, "5b346fe06d3a8fa3ea9b71b84380687ba7ccb1d2fcc01cdb90c1cf6a8af10bc7"), looks := false }, kinds := [], alts := [], laidByText := true, laidKinds := [.data], laidTests := true, laidLooks := .later }
def TabsSizesUptoCardSaid : Prop := Claim7.holds Tryd.pinned (.plain (OpenSpec.upto tabsSizesSpec)) tabsSizesUptoCard

/-- THE SECOND FORM's CARD OF 'marqueelaw14.TabsKnown'. -/
def tabsKnownUptoCard : Claim7 := { stood := { row := tabsKnownUptoRow, standIns := [], harness := (true, "5b346fe06d3a8fa3ea9b71b84380687ba7ccb1d2fcc01cdb90c1cf6a8af10bc7"), looks := false }, kinds := [], alts := [], laidByText := true, laidKinds := [.data], laidTests := true, laidLooks := .later }
def TabsKnownUptoCardSaid : Prop := Claim7.holds Tryd.pinned (.plain (OpenSpec.upto tabsKnownSpec)) tabsKnownUptoCard
end Rows
end Go.Proofs.YtifdekgmoekegaaDoor
