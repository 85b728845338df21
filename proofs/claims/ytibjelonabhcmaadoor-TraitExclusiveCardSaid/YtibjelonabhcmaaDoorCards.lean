/-
  DERIVED. GIVEN WITH THE SEED: THE CARDS: each row of YtibjelonabhcmaaDoorRows.lean that lists a variable, with what it lists TIED to the program's text (the seventh form; the later family's looks); each row that meets fmt, with fmt's text TOLD by the authors' own Lean function (tested against real Go, not proved from fmt's source: count such statements apart). THE CARD IS WHAT COUNTS. Prove the row's statement (the work); the ties are given (YtibjelonabhcmaaDoorTie.lean); close each card by the builder's one call (the guide's Derived/Test/ToyasCard.lean, 'card_holds'). Laid BY PROGRAM, IN A SANDBOX (cutbox-door.mjs). By AI agents, Wed Nov 11 2026. No macro, syntax, notation, axiom, sorry.
-/
import Derived.Test.YtibjelonabhcmaaDoorRows
import GoSem.ClaimSeven
namespace Go.Proofs.YtibjelonabhcmaaDoor
namespace Rows

/-- THE TIED CARD OF 'windroselaw13.TraitMay'. -/
def traitMayCard : Claim7 := { stood := { row := traitMayRow, standIns := [], harness := (true, "5586f3765bb154a055e2aac0d61b747d16c0e172ec3ae02ee93ebadf71cb2720"), looks := false }, kinds := [], alts := [], laidByText := true, laidKinds := [.widerDeep], laidTests := true, laidLooks := .later }
def TraitMayCardSaid : Prop := Claim7.holds Tryd.pinned (.plain (OpenSpec.ofChange traitMaySpec)) traitMayCard

/-- THE TIED CARD OF 'windroselaw13.TraitPolicies'. -/
def traitPoliciesCard : Claim7 := { stood := { row := traitPoliciesRow, standIns := [], harness := (true, "5586f3765bb154a055e2aac0d61b747d16c0e172ec3ae02ee93ebadf71cb2720"), looks := false }, kinds := [], alts := [], laidByText := true, laidKinds := [.widerDeep], laidTests := true, laidLooks := .later }
def TraitPoliciesCardSaid : Prop := Claim7.holds Tryd.pinned (.plain (OpenSpec.ofChange traitPoliciesSpec)) traitPoliciesCard

/-- THE TIED CARD OF 'windroselaw13.TraitGoes'. -/
def traitGoesCard : Claim7 := { stood := { row := traitGoesRow, standIns := [], harness := (true, "5586f3765bb154a055e2aac0d61b747d16c0e172ec3ae02ee93ebadf71cb2720"), looks := false }, kinds := [], alts := [], laidByText := true, laidKinds := [.widerDeep], laidTests := true, laidLooks := .later }
def TraitGoesCardSaid : Prop := Claim7.holds Tryd.pinned (.plain (OpenSpec.ofChange traitGoesSpec)) traitGoesCard

/-- THE TIED CARD OF 'windroselaw13.TraitTurn'. -/
def traitTurnCard : Claim7 := { stood := { row := traitTurnRow, standIns := [], harness := (true, "5586f3765bb154a055e2aac0d61b747d16c0e172ec3ae02ee93ebadf71cb2720"), looks := false }, kinds := [], alts := [], laidByText := true, laidKinds := [.widerDeep], laidTests := true, laidLooks := .later }
def TraitTurnCardSaid : Prop := Claim7.holds Tryd.pinned (.plain (OpenSpec.ofChange traitTurnSpec)) traitTurnCard

/-- THE TIED CARD OF 'windroselaw13.TraitExclusive'. -/
def traitExclusiveCard : Claim7 := { stood := { row := traitExclusiveRow, standIns := [], harness := (true, "5586f3765bb154a055e2aac0d61b747d16c0e172ec3ae02ee93ebadf71cb2720"), looks := false }, kinds := [], alts := [], laidByText := true, laidKinds := [.widerDeep], laidTests := true, laidLooks := .later }
def TraitExclusiveCardSaid : Prop := Claim7.holds Tryd.pinned (.plain (OpenSpec.ofChange traitExclusiveSpec)) traitExclusiveCard

/-- THE SECOND FORM's CARD OF 'windroselaw13.TraitMay'. -/
def traitMayUptoCard : Claim7 := { stood := { row := traitMayUptoRow, standIns := [], harness := (true, "5586f3765bb154a055e2aac0d61b747d16c0e172ec3ae02ee93ebadf71cb2720"), looks := false }, kinds := [], alts := [], laidByText := true, laidKinds := [.widerDeep], laidTests := true, laidLooks := .later }
def TraitMayUptoCardSaid : Prop := Claim7.holds Tryd.pinned (.plain (OpenSpec.upto traitMaySpec)) traitMayUptoCard

/-- THE SECOND FORM's CARD OF 'windroselaw13.TraitPolicies'. -/
def traitPoliciesUptoCard : Claim7 := { stood := { row := traitPoliciesUptoRow, standIns := [], harness := (true, "5586f3765bb154a055e2aac0d61b747d16c0e172ec3ae02ee93ebadf71cb2720"), looks := false }, kinds := [], alts := [], laidByText := true, laidKinds := [.widerDeep], laidTests := true, laidLooks := .later }
def TraitPoliciesUptoCardSaid : Prop := Claim7.holds Tryd.pinned (.plain (OpenSpec.upto traitPoliciesSpec)) traitPoliciesUptoCard

/-- THE SECOND FORM's CARD OF 'windroselaw13.TraitGoes'. -/
def traitGoesUptoCard : Claim7 := { stood := { row := traitGoesUptoRow, standIns := [], harness := (true, "5586f3765bb154a055e2aac0d61b747d16c0e172ec3ae02ee93ebadf71cb2720"), looks := false }, kinds := [], alts := [], laidByText := true, laidKinds := [.widerDeep], laidTests := true, laidLooks := .later }
def TraitGoesUptoCardSaid : Prop := Claim7.holds Tryd.pinned (.plain (OpenSpec.upto traitGoesSpec)) traitGoesUptoCard

/-- THE SECOND FORM's CARD OF 'windroselaw13.TraitTurn'. -/
def traitTurnUptoCard : Claim7 := { stood := { row := traitTurnUptoRow, standIns := [], harness := (true, "5586f3765bb154a055e2aac0d61b747d16c0e172ec3ae02ee93ebadf71cb2720"), looks := false }, kinds := [], alts := [], laidByText := true, laidKinds := [.widerDeep], laidTests := true, laidLooks := .later }
def TraitTurnUptoCardSaid : Prop := Claim7.holds Tryd.pinned (.plain (OpenSpec.upto traitTurnSpec)) traitTurnUptoCard

/-- THE SECOND FORM's CARD OF 'windroselaw13.TraitExclusive'. -/
def traitExclusiveUptoCard : Claim7 := { stood := { row := traitExclusiveUptoRow, standIns := [], harness := (true, "5586f3765bb154a055e2aac0d61b747d16c0e172ec3ae02ee93ebadf71cb2720"), looks := false }, kinds := [], alts := [], laidByText := true, laidKinds := [.widerDeep], laidTests := true, laidLooks := .later }
def TraitExclusiveUptoCardSaid : Prop := Claim7.holds Tryd.pinned (.plain (OpenSpec.upto traitExclusiveSpec)) traitExclusiveUptoCard
end Rows
end Go.Proofs.YtibjelonabhcmaaDoor
