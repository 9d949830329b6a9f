/-
  DERIVED. GIVEN WITH THE SEED: THE CARDS: each row of YtemaflbbcihilaaDoorRows.lean that lists a variable, with what it lists TIED to the program's text (the seventh form; the later family's looks); each row that meets fmt, with fmt's text TOLD by the authors' own Lean function (tested against real Go, not proved from fmt's source: count such statements apart). THE CARD IS WHAT COUNTS. Prove the row's statement (the work); the ties are given (YtemaflbbcihilaaDoorTie.lean); close each card by the builder's one call (the guide's Derived/Test/ToyasCard.lean, 'card_holds'). Laid BY PROGRAM, IN A SANDBOX (cutbox-door.mjs). By AI agents, Wed Nov 11 2026. No macro, syntax, notation, axiom, sorry.
-/
import Derived.Test.YtemaflbbcihilaaDoorRows
import GoSem.ClaimSeven
namespace Go.Proofs.YtemaflbbcihilaaDoor
namespace Rows

/-- THE TIED CARD OF 'laws.FnExactWordsOf'. -/
def fnExactWordsOfCard : Claim7 := { stood := { row := fnExactWordsOfRow, standIns := [], harness := (true, "9c080af951be9f918b35edab6b1da518299e7b79cbc7b0e06871f61c896fff16"), looks := false }, kinds := [], alts := [], laidByText := true, laidKinds := [.data, .pinned], laidTests := true, laidLooks := .later }
def FnExactWordsOfCardSaid : Prop := Claim7.holds Tryd.pinned (.plain (OpenSpec.ofChange fnExactWordsOfSpec)) fnExactWordsOfCard

/-- THE TIED CARD OF 'laws.FnExactRowsText'. -/
def fnExactRowsTextCard : Claim7 := { stood := { row := fnExactRowsTextRow, standIns := [], harness := (true, "9c080af951be9f918b35edab6b1da518299e7b79cbc7b0e06871f61c896fff16"), looks := false }, kinds := [], alts := [], laidByText := true, laidKinds := [.data, .data, .data], laidTests := true, laidLooks := .later }
def FnExactRowsTextCardSaid : Prop := Claim7.holds Tryd.pinned (.plain (OpenSpec.ofChange fnExactRowsTextSpec)) fnExactRowsTextCard

/-- THE TIED CARD OF 'laws.FnExactSentText'. -/
def fnExactSentTextCard : Claim7 := { stood := { row := fnExactSentTextRow, standIns := [], harness := (true, "9c080af951be9f918b35edab6b1da518299e7b79cbc7b0e06871f61c896fff16"), looks := false }, kinds := [], alts := [], laidByText := true, laidKinds := [.data, .data, .data], laidTests := true, laidLooks := .later }
def FnExactSentTextCardSaid : Prop := Claim7.holds Tryd.pinned (.plain (OpenSpec.ofChange fnExactSentTextSpec)) fnExactSentTextCard

/-- THE SECOND FORM's CARD OF 'laws.FnExactWordsOf'. -/
def fnExactWordsOfUptoCard : Claim7 := { stood := { row := fnExactWordsOfUptoRow, standIns := [], harness := (true, "9c080af951be9f918b35edab6b1da518299e7b79cbc7b0e06871f61c896fff16"), looks := false }, kinds := [], alts := [], laidByText := true, laidKinds := [.data, .pinned], laidTests := true, laidLooks := .later }
def FnExactWordsOfUptoCardSaid : Prop := Claim7.holds Tryd.pinned (.plain (OpenSpec.upto fnExactWordsOfSpec)) fnExactWordsOfUptoCard

/-- THE SECOND FORM's CARD OF 'laws.FnExactRowsText'. -/
def fnExactRowsTextUptoCard : Claim7 := { stood := { row := fnExactRowsTextUptoRow, standIns := [], harness := (true, "9c080af951be9f918b35edab6b1da518299e7b79cbc7b0e06871f61c896fff16"), looks := false }, kinds := [], alts := [], laidByText := true, laidKinds := [.data, .data, .data], laidTests := true, laidLooks := .later }
def FnExactRowsTextUptoCardSaid : Prop := Claim7.holds Tryd.pinned (.plain (OpenSpec.upto fnExactRowsTextSpec)) fnExactRowsTextUptoCard

/-- THE SECOND FORM's CARD OF 'laws.FnExactSentText'. -/
def fnExactSentTextUptoCard : Claim7 := { stood := { row := fnExactSentTextUptoRow, standIns := [], harness := (true, "9c080af951be9f918b35edab6b1da518299e7b79cbc7b0e06871f61c896fff16"), looks := false }, kinds := [], alts := [], laidByText := true, laidKinds := [.data, .data, .data], laidTests := true, laidLooks := .later }
def FnExactSentTextUptoCardSaid : Prop := Claim7.holds Tryd.pinned (.plain (OpenSpec.upto fnExactSentTextSpec)) fnExactSentTextUptoCard
end Rows
end Go.Proofs.YtemaflbbcihilaaDoor
