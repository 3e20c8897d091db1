/-
  DERIVED. GIVEN WITH THE SEED: THE CARDS: each row of YtpnghpmgdekmgaaDoorRows.lean that lists a variable, with what it lists TIED to the program's text (the seventh form; the later family's looks); each row that meets fmt, with fmt's text TOLD by the authors' own Lean function (tested against real Go, not proved from fmt's source: count such statements apart). THE CARD IS WHAT COUNTS. Prove the row's statement (the work); the ties are given (YtpnghpmgdekmgaaDoorTie.lean); close each card by the builder's one call (the guide's Derived/Test/ToyasCard.lean, 'card_holds'). Laid BY PROGRAM, IN A SANDBOX (cutbox-door.mjs). By AI agents, Wed Nov 11 2026. No macro, syntax, notation, axiom, sorry.
-/
import Derived.Test.YtpnghpmgdekmgaaDoorRows
import GoSem.ClaimSeven
namespace Go.Proofs.YtpnghpmgdekmgaaDoor
namespace Rows

/-- THE TIED CARD OF 'murmurationlaw13.LexerLines'. -/
def lexerLinesCard : Claim7 := { stood := { row := lexerLinesRow, standIns := [], harness := (true, "e809ee27f96a89de966e296eefbbe96c7964608a8f6ab33ceef646964f6f1e37"), looks := false }, kinds := [], alts := [], laidByText := true, laidKinds := [.data, .pinned], laidTests := true, laidLooks := .later }
def LexerLinesCardSaid : Prop := Claim7.holds Tryd.pinned (.plain (OpenSpec.ofChange lexerLinesSpec)) lexerLinesCard

/-- THE TIED CARD OF 'murmurationlaw13.LexerPlain'. -/
def lexerPlainCard : Claim7 := { stood := { row := lexerPlainRow, standIns := [], harness := (true, "e809ee27f96a89de966e296eefbbe96c7964608a8f6ab33ceef646964f6f1e37"), looks := false }, kinds := [], alts := [], laidByText := true, laidKinds := [.data, .pinned], laidTests := true, laidLooks := .later }
def LexerPlainCardSaid : Prop := Claim7.holds Tryd.pinned (.plain (OpenSpec.ofChange lexerPlainSpec)) lexerPlainCard

/-- THE TIED CARD OF 'murmurationlaw13.LexerBack'. -/
def lexerBackCard : Claim7 := { stood := { row := lexerBackRow, standIns := [], harness := (true, "e809ee27f96a89de966e296eefbbe96c7964608a8f6ab33ceef646964f6f1e37"), looks := false }, kinds := [], alts := [], laidByText := true, laidKinds := [.data, .pinned], laidTests := true, laidLooks := .later }
def LexerBackCardSaid : Prop := Claim7.holds Tryd.pinned (.plain (OpenSpec.ofChange lexerBackSpec)) lexerBackCard

/-- THE TIED CARD OF 'murmurationlaw13.LexerJoin'. -/
def lexerJoinCard : Claim7 := { stood := { row := lexerJoinRow, standIns := [], harness := (true, "e809ee27f96a89de966e296eefbbe96c7964608a8f6ab33ceef646964f6f1e37"), looks := false }, kinds := [], alts := [], laidByText := true, laidKinds := [.data, .pinned], laidTests := true, laidLooks := .later }
def LexerJoinCardSaid : Prop := Claim7.holds Tryd.pinned (.plain (OpenSpec.ofChange lexerJoinSpec)) lexerJoinCard

/-- THE SECOND FORM's CARD OF 'murmurationlaw13.LexerLines'. -/
def lexerLinesUptoCard : Claim7 := { stood := { row := lexerLinesUptoRow, standIns := [], harness := (true, "e809ee27f96a89de966e296eefbbe96c7964608a8f6ab33ceef646964f6f1e37"), looks := false }, kinds := [], alts := [], laidByText := true, laidKinds := [.data, .pinned], laidTests := true, laidLooks := .later }
def LexerLinesUptoCardSaid : Prop := Claim7.holds Tryd.pinned (.plain (OpenSpec.upto lexerLinesSpec)) lexerLinesUptoCard

/-- THE SECOND FORM's CARD OF 'murmurationlaw13.LexerPlain'. -/
def lexerPlainUptoCard : Claim7 := { stood := { row := lexerPlainUptoRow, standIns := [], harness := (true, "e809ee27f96a89de966e296eefbbe96c7964608a8f6ab33ceef646964f6f1e37"), looks := false }, kinds := [], alts := [], laidByText := true, laidKinds := [.data, .pinned], laidTests := true, laidLooks := .later }
def LexerPlainUptoCardSaid : Prop := Claim7.holds Tryd.pinned (.plain (OpenSpec.upto lexerPlainSpec)) lexerPlainUptoCard

/-- THE SECOND FORM's CARD OF 'murmurationlaw13.LexerBack'. -/
def lexerBackUptoCard : Claim7 := { stood := { row := lexerBackUptoRow, standIns := [], harness := (true, "e809ee27f96a89de966e296eefbbe96c7964608a8f6ab33ceef646964f6f1e37"), looks := false }, kinds := [], alts := [], laidByText := true, laidKinds := [.data, .pinned], laidTests := true, laidLooks := .later }
def LexerBackUptoCardSaid : Prop := Claim7.holds Tryd.pinned (.plain (OpenSpec.upto lexerBackSpec)) lexerBackUptoCard

/-- THE SECOND FORM's CARD OF 'murmurationlaw13.LexerJoin'. -/
def lexerJoinUptoCard : Claim7 := { stood := { row := lexerJoinUptoRow, standIns := [], harness := (true, "e809ee27f96a89de966e296eefbbe96c7964608a8f6ab33ceef646964f6f1e37"), looks := false }, kinds := [], alts := [], laidByText := true, laidKinds := [.data, .pinned], laidTests := true, laidLooks := .later }
def LexerJoinUptoCardSaid : Prop := Claim7.holds Tryd.pinned (.plain (OpenSpec.upto lexerJoinSpec)) lexerJoinUptoCard
end Rows
end Go.Proofs.YtpnghpmgdekmgaaDoor
