/-
  DERIVED. GIVEN WITH THE SEED: THE CARDS: each row of YtmhcpaffdchboaaDoorRows.lean that lists a variable, with what it lists TIED to the program's text (the seventh form; the later family's looks); each row that meets fmt, with fmt's text TOLD by the authors' own Lean function (tested against real Go, not proved from fmt's source: count such statements apart). THE CARD IS WHAT COUNTS. Prove the row's statement (the work); the ties are given (YtmhcpaffdchboaaDoorTie.lean); close each card by the builder's one call (the guide's Derived/Test/ToyasCard.lean, 'card_holds'). Laid BY PROGRAM, IN A SANDBOX (cutbox-door.mjs). By AI agents, Wed Nov 11 2026. No macro, syntax, notation, axiom, sorry.
-/
import Derived.Test.YtmhcpaffdchboaaDoorRows
import GoSem.ClaimSeven
namespace Go.Proofs.YtmhcpaffdchboaaDoor
namespace Rows

/-- THE TIED CARD OF 'laws.FnExactNumberText'. -/
def fnExactNumberTextCard : Claim7 := { stood := { row := fnExactNumberTextRow, standIns := [], harness := (true, "b38578c545a470b256a02bb92f1fe02b6c885e8010289bdd148927cc2e8a8670"), looks := true }, kinds := [], alts := [], laidByText := true, laidKinds := [.data, .data, .data], laidTests := true, laidLooks := .later }
def FnExactNumberTextCardSaid : Prop := Claim7.holds Tryd.pinned (.plain (OpenSpec.ofChange fnExactNumberTextSpec)) fnExactNumberTextCard

/-- THE TIED CARD OF 'laws.FnExactParseNumber'. -/
def fnExactParseNumberCard : Claim7 := { stood := { row := fnExactParseNumberRow, standIns := [], harness := (true, "b38578c545a470b256a02bb92f1fe02b6c885e8010289bdd148927cc2e8a8670"), looks := true }, kinds := [], alts := [], laidByText := true, laidKinds := [.data, .data, .data, .sentinel, .sentinel], laidTests := true, laidLooks := .later }
def FnExactParseNumberCardSaid : Prop := Claim7.holds Tryd.pinned (.plain (OpenSpec.ofChange fnExactParseNumberSpec)) fnExactParseNumberCard

/-- THE TIED CARD OF 'laws.FnNumberTexts'. -/
def fnNumberTextsCard : Claim7 := { stood := { row := fnNumberTextsRow, standIns := [], harness := (true, "b38578c545a470b256a02bb92f1fe02b6c885e8010289bdd148927cc2e8a8670"), looks := true }, kinds := [], alts := [], laidByText := true, laidKinds := [.data, .data, .data, .sentinel, .sentinel], laidTests := true, laidLooks := .later }
def FnNumberTextsCardSaid : Prop := Claim7.holds Tryd.pinned (.plain (OpenSpec.ofChange fnNumberTextsSpec)) fnNumberTextsCard

/-- THE SECOND FORM's CARD OF 'laws.FnExactNumberText'. -/
def fnExactNumberTextUptoCard : Claim7 := { stood := { row := fnExactNumberTextUptoRow, standIns := [], harness := (true, "b38578c545a470b256a02bb92f1fe02b6c885e8010289bdd148927cc2e8a8670"), looks := true }, kinds := [], alts := [], laidByText := true, laidKinds := [.data, .data, .data], laidTests := true, laidLooks := .later }
def FnExactNumberTextUptoCardSaid : Prop := Claim7.holds Tryd.pinned (.plain (OpenSpec.upto fnExactNumberTextSpec)) fnExactNumberTextUptoCard

/-- THE SECOND FORM's CARD OF 'laws.FnExactParseNumber'. -/
def fnExactParseNumberUptoCard : Claim7 := { stood := { row := fnExactParseNumberUptoRow, standIns := [], harness := (true, "b38578c545a470b256a02bb92f1fe02b6c885e8010289bdd148927cc2e8a8670"), looks := true }, kinds := [], alts := [], laidByText := true, laidKinds := [.data, .data, .data, .sentinel, .sentinel], laidTests := true, laidLooks := .later }
def FnExactParseNumberUptoCardSaid : Prop := Claim7.holds Tryd.pinned (.plain (OpenSpec.upto fnExactParseNumberSpec)) fnExactParseNumberUptoCard

/-- THE SECOND FORM's CARD OF 'laws.FnNumberTexts'. -/
def fnNumberTextsUptoCard : Claim7 := { stood := { row := fnNumberTextsUptoRow, standIns := [], harness := (true, "b38578c545a470b256a02bb92f1fe02b6c885e8010289bdd148927cc2e8a8670"), looks := true }, kinds := [], alts := [], laidByText := true, laidKinds := [.data, .data, .data, .sentinel, .sentinel], laidTests := true, laidLooks := .later }
def FnNumberTextsUptoCardSaid : Prop := Claim7.holds Tryd.pinned (.plain (OpenSpec.upto fnNumberTextsSpec)) fnNumberTextsUptoCard
end Rows
end Go.Proofs.YtmhcpaffdchboaaDoor
