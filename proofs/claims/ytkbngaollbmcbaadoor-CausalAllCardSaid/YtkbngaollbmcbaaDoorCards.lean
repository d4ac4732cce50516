/-
  DERIVED. GIVEN WITH THE SEED: THE CARDS: each row of YtkbngaollbmcbaaDoorRows.lean that lists a variable, with what it lists TIED to the program's text (the seventh form; the later family's looks); each row that meets fmt, with fmt's text TOLD by the authors' own Lean function (tested against real Go, not proved from fmt's source: count such statements apart). THE CARD IS WHAT COUNTS. Prove the row's statement (the work); the ties are given (YtkbngaollbmcbaaDoorTie.lean); close each card by the builder's one call (the guide's Derived/Test/ToyasCard.lean, 'card_holds'). Laid BY PROGRAM, IN A SANDBOX (cutbox-door.mjs). By AI agents, Wed Nov 11 2026. No macro, syntax, notation, axiom, sorry.
-/
import Derived.Test.YtkbngaollbmcbaaDoorRows
import GoSem.ClaimSeven
namespace Go.Proofs.YtkbngaollbmcbaaDoor
namespace Rows

/-- THE TIED CARD OF 'partkeep.CausalLine'. -/
def causalLineCard : Claim7 := { stood := { row := causalLineRow, standIns := [], harness := (true, "14b0026c41719434ed4ac978c33fc0fc6010f237949abf9a9ad0e60fd5291d1c"), looks := false }, kinds := [], alts := [], laidByText := true, laidKinds := [.data, .data, .data], laidTests := true, laidLooks := .later }
def CausalLineCardSaid : Prop := Claim7.holds Tryd.pinned (.plain (OpenSpec.ofChange causalLineSpec)) causalLineCard

/-- THE TIED CARD OF 'partkeep.CausalAll'. -/
def causalAllCard : Claim7 := { stood := { row := causalAllRow, standIns := [], harness := (true, "14b0026c41719434ed4ac978c33fc0fc6010f237949abf9a9ad0e60fd5291d1c"), looks := false }, kinds := [], alts := [], laidByText := true, laidKinds := [.data, .data, .data], laidTests := true, laidLooks := .later }
def CausalAllCardSaid : Prop := Claim7.holds Tryd.pinned (.plain (OpenSpec.ofChange causalAllSpec)) causalAllCard

/-- THE TIED CARD OF 'partkeep.CausalOrder'. -/
def causalOrderCard : Claim7 := { stood := { row := causalOrderRow, standIns := [], harness := (true, "14b0026c41719434ed4ac978c33fc0fc6010f237949abf9a9ad0e60fd5291d1c"), looks := false }, kinds := [], alts := [], laidByText := true, laidKinds := [.data, .data, .data], laidTests := true, laidLooks := .later }
def CausalOrderCardSaid : Prop := Claim7.holds Tryd.pinned (.plain (OpenSpec.ofChange causalOrderSpec)) causalOrderCard

/-- THE SECOND FORM's CARD OF 'partkeep.CausalLine'. -/
def causalLineUptoCard : Claim7 := { stood := { row := causalLineUptoRow, standIns := [], harness := (true, "14b0026c41719434ed4ac978c33fc0fc6010f237949abf9a9ad0e60fd5291d1c"), looks := false }, kinds := [], alts := [], laidByText := true, laidKinds := [.data, .data, .data], laidTests := true, laidLooks := .later }
def CausalLineUptoCardSaid : Prop := Claim7.holds Tryd.pinned (.plain (OpenSpec.upto causalLineSpec)) causalLineUptoCard

/-- THE SECOND FORM's CARD OF 'partkeep.CausalAll'. -/
def causalAllUptoCard : Claim7 := { stood := { row := causalAllUptoRow, standIns := [], harness := (true, "14b0026c41719434ed4ac978c33fc0fc6010f237949abf9a9ad0e60fd5291d1c"), looks := false }, kinds := [], alts := [], laidByText := true, laidKinds := [.data, .data, .data], laidTests := true, laidLooks := .later }
def CausalAllUptoCardSaid : Prop := Claim7.holds Tryd.pinned (.plain (OpenSpec.upto causalAllSpec)) causalAllUptoCard

/-- THE SECOND FORM's CARD OF 'partkeep.CausalOrder'. -/
def causalOrderUptoCard : Claim7 := { stood := { row := causalOrderUptoRow, standIns := [], harness := (true, "14b0026c41719434ed4ac978c33fc0fc6010f237949abf9a9ad0e60fd5291d1c"), looks := false }, kinds := [], alts := [], laidByText := true, laidKinds := [.data, .data, .data], laidTests := true, laidLooks := .later }
def CausalOrderUptoCardSaid : Prop := Claim7.holds Tryd.pinned (.plain (OpenSpec.upto causalOrderSpec)) causalOrderUptoCard
end Rows
end Go.Proofs.YtkbngaollbmcbaaDoor
