/-
  DERIVED. GIVEN WITH THE SEED: THE CARDS: each row of YtejabnoidhlfaaaDoorRows.lean that lists a variable, with what it lists TIED to the program's text (the seventh form; the later family's looks); each row that meets fmt, with fmt's text TOLD by the authors' own Lean function (tested against real Go, not proved from fmt's source: count such statements apart). THE CARD IS WHAT COUNTS. Prove the row's statement (the work); the ties are given (YtejabnoidhlfaaaDoorTie.lean); close each card by the builder's one call (the guide's Derived/Test/ToyasCard.lean, 'card_holds'). Laid BY PROGRAM, IN A SANDBOX (cutbox-door.mjs). By AI agents, Wed Nov 11 2026. No macro, syntax, notation, axiom, sorry.
-/
import Derived.Test.YtejabnoidhlfaaaDoorRows
import GoSem.ClaimSeven
namespace Go.Proofs.YtejabnoidhlfaaaDoor
namespace Rows

/-- THE TIED CARD OF 'cabotagelaw11.SessStill'. -/
def sessStillCard : Claim7 := { stood := { row := sessStillRow, standIns := [], harness := (true, "9f5789d6fef90cbcf5da461c913db39adababb3ff03c63ccf6d3717ff7470316"), looks := false }, kinds := [], alts := [], laidByText := true, laidKinds := [.data, .data, .data], laidTests := true, laidLooks := .later }
def SessStillCardSaid : Prop := Claim7.holds Tryd.pinned (.plain (OpenSpec.ofChange sessStillSpec)) sessStillCard

/-- THE TIED CARD OF 'cabotagelaw11.SessComes'. -/
def sessComesCard : Claim7 := { stood := { row := sessComesRow, standIns := [], harness := (true, "9f5789d6fef90cbcf5da461c913db39adababb3ff03c63ccf6d3717ff7470316"), looks := false }, kinds := [], alts := [], laidByText := true, laidKinds := [.data, .data, .data], laidTests := true, laidLooks := .later }
def SessComesCardSaid : Prop := Claim7.holds Tryd.pinned (.plain (OpenSpec.ofChange sessComesSpec)) sessComesCard

/-- THE TIED CARD OF 'cabotagelaw11.SessOrder'. -/
def sessOrderCard : Claim7 := { stood := { row := sessOrderRow, standIns := [], harness := (true, "9f5789d6fef90cbcf5da461c913db39adababb3ff03c63ccf6d3717ff7470316"), looks := false }, kinds := [], alts := [], laidByText := true, laidKinds := [.data, .data, .data], laidTests := true, laidLooks := .later }
def SessOrderCardSaid : Prop := Claim7.holds Tryd.pinned (.plain (OpenSpec.ofChange sessOrderSpec)) sessOrderCard

/-- THE TIED CARD OF 'cabotagelaw11.SessAll'. -/
def sessAllCard : Claim7 := { stood := { row := sessAllRow, standIns := [], harness := (true, "9f5789d6fef90cbcf5da461c913db39adababb3ff03c63ccf6d3717ff7470316"), looks := false }, kinds := [], alts := [], laidByText := true, laidKinds := [.data, .data, .data], laidTests := true, laidLooks := .later }
def SessAllCardSaid : Prop := Claim7.holds Tryd.pinned (.plain (OpenSpec.ofChange sessAllSpec)) sessAllCard

/-- THE TIED CARD OF 'cabotagelaw11.SessTold'. -/
def sessToldCard : Claim7 := { stood := { row := sessToldRow, standIns := [], harness := (true, "9f5789d6fef90cbcf5da461c913db39adababb3ff03c63ccf6d3717ff7470316"), looks := false }, kinds := [], alts := [], laidByText := true, laidKinds := [.data, .data, .data], laidTests := true, laidLooks := .later }
def SessToldCardSaid : Prop := Claim7.holds Tryd.pinned (.plain (OpenSpec.ofChange sessToldSpec)) sessToldCard

/-- THE SECOND FORM's CARD OF 'cabotagelaw11.SessStill'. -/
def sessStillUptoCard : Claim7 := { stood := { row := sessStillUptoRow, standIns := [], harness := (true, "9f5789d6fef90cbcf5da461c913db39adababb3ff03c63ccf6d3717ff7470316"), looks := false }, kinds := [], alts := [], laidByText := true, laidKinds := [.data, .data, .data], laidTests := true, laidLooks := .later }
def SessStillUptoCardSaid : Prop := Claim7.holds Tryd.pinned (.plain (OpenSpec.upto sessStillSpec)) sessStillUptoCard

/-- THE SECOND FORM's CARD OF 'cabotagelaw11.SessComes'. -/
def sessComesUptoCard : Claim7 := { stood := { row := sessComesUptoRow, standIns := [], harness := (true, "9f5789d6fef90cbcf5da461c913db39adababb3ff03c63ccf6d3717ff7470316"), looks := false }, kinds := [], alts := [], laidByText := true, laidKinds := [.data, .data, .data], laidTests := true, laidLooks := .later }
def SessComesUptoCardSaid : Prop := Claim7.holds Tryd.pinned (.plain (OpenSpec.upto sessComesSpec)) sessComesUptoCard

/-- THE SECOND FORM's CARD OF 'cabotagelaw11.SessOrder'. -/
def sessOrderUptoCard : Claim7 := { stood := { row := sessOrderUptoRow, standIns := [], harness := (true, "9f5789d6fef90cbcf5da461c913db39adababb3ff03c63ccf6d3717ff7470316"), looks := false }, kinds := [], alts := [], laidByText := true, laidKinds := [.data, .data, .data], laidTests := true, laidLooks := .later }
def SessOrderUptoCardSaid : Prop := Claim7.holds Tryd.pinned (.plain (OpenSpec.upto sessOrderSpec)) sessOrderUptoCard

/-- THE SECOND FORM's CARD OF 'cabotagelaw11.SessAll'. -/
def sessAllUptoCard : Claim7 := { stood := { row := sessAllUptoRow, standIns := [], harness := (true, "9f5789d6fef90cbcf5da461c913db39adababb3ff03c63ccf6d3717ff7470316"), looks := false }, kinds := [], alts := [], laidByText := true, laidKinds := [.data, .data, .data], laidTests := true, laidLooks := .later }
def SessAllUptoCardSaid : Prop := Claim7.holds Tryd.pinned (.plain (OpenSpec.upto sessAllSpec)) sessAllUptoCard

/-- THE SECOND FORM's CARD OF 'cabotagelaw11.SessTold'. -/
def sessToldUptoCard : Claim7 := { stood := { row := sessToldUptoRow, standIns := [], harness := (true, "9f5789d6fef90cbcf5da461c913db39adababb3ff03c63ccf6d3717ff7470316"), looks := false }, kinds := [], alts := [], laidByText := true, laidKinds := [.data, .data, .data], laidTests := true, laidLooks := .later }
def SessToldUptoCardSaid : Prop := Claim7.holds Tryd.pinned (.plain (OpenSpec.upto sessToldSpec)) sessToldUptoCard
end Rows
end Go.Proofs.YtejabnoidhlfaaaDoor
