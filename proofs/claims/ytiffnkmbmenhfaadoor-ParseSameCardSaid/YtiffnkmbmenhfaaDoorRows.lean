/-
  NARROWER THAN 'FOR EVERY INPUT', by the rows' own cells (each row's printed sentence says how): ParseSame: loops, laid · ParseProgram: laid · ParseBack: laid · ParseConcats: laid · ParseFirst: laid · ParseTokens: laid.
  DERIVED. THE GIVEN ROWS OF THIS SEAT. 6 by the template 'for every input the law returns true; each argument reads behind the call as it read before'; 0 by the template 'total and deterministic' (their statements: YtiffnkmbmenhfaaDoorTotals.lean).
  GIVEN WITH THE SEED: the statements are not yours to turn. If you find one false, say at which input.
  Laid BY PROGRAM, IN A SANDBOX (cutbox-rows.mjs): the forced cells as the released guide's own fill.sh prints them over the translation 28d3d9ffc1a24a0b… (all of the seat's roots in one cut). By AI agents, Wed Nov 11 2026. No macro, syntax, notation, axiom, sorry.
-/
import Derived.Test.YtiffnkmbmenhfaaDoorChecked
import GoSem.Claim
import GoSem.ClaimJoined
import GoSem.ClaimMapViews
import Derived.JoinedTies
import Derived.KernelRfl
namespace Go.Proofs.YtiffnkmbmenhfaaDoor
/- THE CELL 'sum', in the pinned program and in every row, IS THE sha256 OF THE DUMP (.gsa) THAT YtiffnkmbmenhfaaDoorProg.lean LOADS. Nothing in Lean hashes anything: it is a label: what it is worth is what the hold of that sum in a sandbox is worth. -/
noncomputable def Tryd.pinned : Pinned := { name := "ytiffnkmbmenhfaadoor", sum := "28d3d9ffc1a24a0b6afa1c402740746e76123814cb41b90b57e8aa06627bb38b", checked := Tryd.checked }
namespace Rows
def none {H : Type} : Left H := { results := [], args := [] }

/- WHAT THE LISTED PACKAGE-LEVEL VARIABLES READ AS WHEN THE CALL BEGINS. Each datum BY PROGRAM (the guide's laid-datum.mjs) off the statement by which the dump's own 'gosem.cut.vars' lays the variable. In a bare row this is a premise. The card (YtiffnkmbmenhfaaDoorCards.lean) ties it to the program's text. -/
def laid_dataflow_lex_keywords {H : Type} : DataW H := .agg [.lit (.string [99, 108, 97, 115, 115]), .lit (.string [101, 120, 116, 101, 110, 100, 115]), .lit (.string [118, 97, 114]), .lit (.string [100, 101, 102]), .lit (.string [115, 116, 97, 116, 105, 99]), .lit (.string [105, 102]), .lit (.string [101, 108, 115, 101]), .lit (.string [119, 104, 105, 108, 101]), .lit (.string [116, 114, 121]), .lit (.string [99, 97, 116, 99, 104]), .lit (.string [116, 104, 114, 111, 119]), .lit (.string [114, 101, 116, 117, 114, 110]), .lit (.string [110, 101, 119]), .lit (.string [110, 117, 108, 108]), .lit (.string [116, 104, 105, 115]), .lit (.string [105, 110, 112, 117, 116]), .lit (.string [105, 110, 116])]
def laid_dataflow_lex_marks {H : Type} : DataW H := .agg [.lit (.string [58, 58]), .lit (.string [61, 61]), .lit (.string [58]), .lit (.string [123]), .lit (.string [125]), .lit (.string [40]), .lit (.string [41]), .lit (.string [59]), .lit (.string [44]), .lit (.string [46]), .lit (.string [61]), .lit (.string [60]), .lit (.string [43]), .lit (.string [45]), .lit (.string [42])]

/-- 'dataflowlaw08.ParseSame': WHATEVER THE INPUT: true; the input reads as it did. -/
def parseSameSpec : ChangeSpec := { name := "parseSame", fn := fun _ => fun
  | [d1, d2] => { results := [.lit (.bool true)], args := [d1, d2] }
  | _ => none }
def parseSameRow : OpenClaim := { program := "ytiffnkmbmenhfaadoor", sum := "28d3d9ffc1a24a0b6afa1c402740746e76123814cb41b90b57e8aa06627bb38b", func := "dataflow/dataflowlaw08.ParseSame", spec := "parseSame", inPlace := ["internal/bytealg.IndexByteString"], unfollowed := true, recurses := true, named := ["dataflow/lex.marks", "dataflow/lex.keywords"], loops := true, apart := false, laid := [("dataflow/lex.keywords", laid_dataflow_lex_keywords), ("dataflow/lex.marks", laid_dataflow_lex_marks)] }
def ParseSameSaid : Prop := parseSameRow.holds Tryd.pinned (OpenSpec.ofChange parseSameSpec)

/-- ITS FALSE NEIGHBOUR: 'it returns false'. Refute it at one input. -/
def parseSameWrong : ChangeSpec := { name := "parseSame", fn := fun _ => fun
  | [d1, d2] => { results := [.lit (.bool false)], args := [d1, d2] }
  | _ => none }
def ParseSameWrongFalsely : Prop := parseSameRow.holds Tryd.pinned (OpenSpec.ofChange parseSameWrong)

/-- 'dataflowlaw08.ParseProgram': WHATEVER THE INPUT: true; the input reads as it did. -/
def parseProgramSpec : ChangeSpec := { name := "parseProgram", fn := fun _ => fun
  | [d] => { results := [.lit (.bool true)], args := [d] }
  | _ => none }
def parseProgramRow : OpenClaim := { program := "ytiffnkmbmenhfaadoor", sum := "28d3d9ffc1a24a0b6afa1c402740746e76123814cb41b90b57e8aa06627bb38b", func := "dataflow/dataflowlaw08.ParseProgram", spec := "parseProgram", inPlace := ["internal/bytealg.IndexByteString"], unfollowed := true, recurses := true, named := ["dataflow/lex.marks", "dataflow/lex.keywords"], apart := false, laid := [("dataflow/lex.keywords", laid_dataflow_lex_keywords), ("dataflow/lex.marks", laid_dataflow_lex_marks)] }
def ParseProgramSaid : Prop := parseProgramRow.holds Tryd.pinned (OpenSpec.ofChange parseProgramSpec)

/-- ITS FALSE NEIGHBOUR: 'it returns false'. Refute it at one input. -/
def parseProgramWrong : ChangeSpec := { name := "parseProgram", fn := fun _ => fun
  | [d] => { results := [.lit (.bool false)], args := [d] }
  | _ => none }
def ParseProgramWrongFalsely : Prop := parseProgramRow.holds Tryd.pinned (OpenSpec.ofChange parseProgramWrong)

/-- 'dataflowlaw08.ParseBack': WHATEVER THE INPUT: true; the input reads as it did. -/
def parseBackSpec : ChangeSpec := { name := "parseBack", fn := fun _ => fun
  | [d] => { results := [.lit (.bool true)], args := [d] }
  | _ => none }
def parseBackRow : OpenClaim := { program := "ytiffnkmbmenhfaadoor", sum := "28d3d9ffc1a24a0b6afa1c402740746e76123814cb41b90b57e8aa06627bb38b", func := "dataflow/dataflowlaw08.ParseBack", spec := "parseBack", inPlace := ["internal/bytealg.IndexByteString"], unfollowed := true, recurses := true, named := ["dataflow/lex.marks", "dataflow/lex.keywords"], apart := false, laid := [("dataflow/lex.keywords", laid_dataflow_lex_keywords), ("dataflow/lex.marks", laid_dataflow_lex_marks)] }
def ParseBackSaid : Prop := parseBackRow.holds Tryd.pinned (OpenSpec.ofChange parseBackSpec)

/-- ITS FALSE NEIGHBOUR: 'it returns false'. Refute it at one input. -/
def parseBackWrong : ChangeSpec := { name := "parseBack", fn := fun _ => fun
  | [d] => { results := [.lit (.bool false)], args := [d] }
  | _ => none }
def ParseBackWrongFalsely : Prop := parseBackRow.holds Tryd.pinned (OpenSpec.ofChange parseBackWrong)

/-- 'dataflowlaw08.ParseConcats': WHATEVER THE INPUT: true; the input reads as it did. -/
def parseConcatsSpec : ChangeSpec := { name := "parseConcats", fn := fun _ => fun
  | [d1, d2] => { results := [.lit (.bool true)], args := [d1, d2] }
  | _ => none }
def parseConcatsRow : OpenClaim := { program := "ytiffnkmbmenhfaadoor", sum := "28d3d9ffc1a24a0b6afa1c402740746e76123814cb41b90b57e8aa06627bb38b", func := "dataflow/dataflowlaw08.ParseConcats", spec := "parseConcats", inPlace := ["internal/bytealg.IndexByteString"], unfollowed := true, recurses := true, named := ["dataflow/lex.marks", "dataflow/lex.keywords"], apart := false, laid := [("dataflow/lex.keywords", laid_dataflow_lex_keywords), ("dataflow/lex.marks", laid_dataflow_lex_marks)] }
def ParseConcatsSaid : Prop := parseConcatsRow.holds Tryd.pinned (OpenSpec.ofChange parseConcatsSpec)

/-- ITS FALSE NEIGHBOUR: 'it returns false'. Refute it at one input. -/
def parseConcatsWrong : ChangeSpec := { name := "parseConcats", fn := fun _ => fun
  | [d1, d2] => { results := [.lit (.bool false)], args := [d1, d2] }
  | _ => none }
def ParseConcatsWrongFalsely : Prop := parseConcatsRow.holds Tryd.pinned (OpenSpec.ofChange parseConcatsWrong)

/-- 'dataflowlaw08.ParseFirst': WHATEVER THE INPUT: true; the input reads as it did. -/
def parseFirstSpec : ChangeSpec := { name := "parseFirst", fn := fun _ => fun
  | [d] => { results := [.lit (.bool true)], args := [d] }
  | _ => none }
def parseFirstRow : OpenClaim := { program := "ytiffnkmbmenhfaadoor", sum := "28d3d9ffc1a24a0b6afa1c402740746e76123814cb41b90b57e8aa06627bb38b", func := "dataflow/dataflowlaw08.ParseFirst", spec := "parseFirst", inPlace := ["internal/bytealg.IndexByteString"], unfollowed := true, recurses := true, named := ["dataflow/lex.marks", "dataflow/lex.keywords"], apart := false, laid := [("dataflow/lex.keywords", laid_dataflow_lex_keywords), ("dataflow/lex.marks", laid_dataflow_lex_marks)] }
def ParseFirstSaid : Prop := parseFirstRow.holds Tryd.pinned (OpenSpec.ofChange parseFirstSpec)

/-- ITS FALSE NEIGHBOUR: 'it returns false'. Refute it at one input. -/
def parseFirstWrong : ChangeSpec := { name := "parseFirst", fn := fun _ => fun
  | [d] => { results := [.lit (.bool false)], args := [d] }
  | _ => none }
def ParseFirstWrongFalsely : Prop := parseFirstRow.holds Tryd.pinned (OpenSpec.ofChange parseFirstWrong)

/-- 'dataflowlaw08.ParseTokens': WHATEVER THE INPUT: true; the input reads as it did. -/
def parseTokensSpec : ChangeSpec := { name := "parseTokens", fn := fun _ => fun
  | [d] => { results := [.lit (.bool true)], args := [d] }
  | _ => none }
def parseTokensRow : OpenClaim := { program := "ytiffnkmbmenhfaadoor", sum := "28d3d9ffc1a24a0b6afa1c402740746e76123814cb41b90b57e8aa06627bb38b", func := "dataflow/dataflowlaw08.ParseTokens", spec := "parseTokens", inPlace := ["internal/bytealg.IndexByteString", "internal/abi.NoEscape", "internal/bytealg.MakeNoZero"], unfollowed := true, recurses := true, named := ["dataflow/lex.marks", "dataflow/lex.keywords"], apart := false, laid := [("dataflow/lex.keywords", laid_dataflow_lex_keywords), ("dataflow/lex.marks", laid_dataflow_lex_marks)] }
def ParseTokensSaid : Prop := parseTokensRow.holds Tryd.pinned (OpenSpec.ofChange parseTokensSpec)

/-- ITS FALSE NEIGHBOUR: 'it returns false'. Refute it at one input. -/
def parseTokensWrong : ChangeSpec := { name := "parseTokens", fn := fun _ => fun
  | [d] => { results := [.lit (.bool false)], args := [d] }
  | _ => none }
def ParseTokensWrongFalsely : Prop := parseTokensRow.holds Tryd.pinned (OpenSpec.ofChange parseTokensWrong)

/- THE SECOND FORM. 'bulk': how many values and letters a reading holds, each counted each time it is reached (what is shared counts as often as it is met; a slice's spare places count too). A statement '..UptoSaid' is the law's where the arguments, and the package variables that the reading takes, are together of bulk at most 1048576: NARROWER than '..Said'. Prove '..Said' where nothing that the law and all that it calls make is longer than what came in: it says more and counts as full. Else prove '..UptoSaid'. A law counts once. -/
mutual
def uptoBulk {H : Type} : DataW H → Nat
  | .lit (.string bytes) => bytes.length + 1
  | .lit _ => 1
  | .nil => 1
  | .ptr d => uptoBulk d + 1
  | .slice elems spare => uptoBulkAll elems + uptoBulkAll spare + 1
  | .agg parts => uptoBulkAll parts + 1
  | .iface _ d => uptoBulk d + 1
  | .map entries => uptoBulkEntries entries + 1
  | .held _ => 1
def uptoBulkAll {H : Type} : List (DataW H) → Nat
  | [] => 0
  | d :: r => uptoBulk d + uptoBulkAll r
def uptoBulkEntries {H : Type} : List (Lit × DataW H) → Nat
  | [] => 0
  | x :: r => uptoBulkEntry x + uptoBulkEntries r
def uptoBulkEntry {H : Type} : Lit × DataW H → Nat
  | (.string bytes, d) => bytes.length + uptoBulk d + 1
  | (_, d) => uptoBulk d + 1
 end
def uptoSmall : (H : Type) → List (DataW H) → Bool := fun _ ds => decide (uptoBulkAll ds ≤ 1048576)
def OpenSpec.upto (s : _root_.Go.ChangeSpec) : _root_.Go.OpenSpec := { _root_.Go.OpenSpec.ofChange s with cond := some uptoSmall }

/-- 'dataflowlaw08.ParseSame', WHERE WHAT IT READS IS OF BULK AT MOST 1048576: true; the input reads as it did. -/
def parseSameUptoRow : OpenClaim := { program := "ytiffnkmbmenhfaadoor", sum := "28d3d9ffc1a24a0b6afa1c402740746e76123814cb41b90b57e8aa06627bb38b", func := "dataflow/dataflowlaw08.ParseSame", spec := "parseSame", inPlace := ["internal/bytealg.IndexByteString"], unfollowed := true, recurses := true, named := ["dataflow/lex.marks", "dataflow/lex.keywords"], loops := true, apart := false, laid := [("dataflow/lex.keywords", laid_dataflow_lex_keywords), ("dataflow/lex.marks", laid_dataflow_lex_marks)], narrowed := true }
def ParseSameUptoSaid : Prop := parseSameUptoRow.holds Tryd.pinned (OpenSpec.upto parseSameSpec)

/-- 'dataflowlaw08.ParseProgram', WHERE WHAT IT READS IS OF BULK AT MOST 1048576: true; the input reads as it did. -/
def parseProgramUptoRow : OpenClaim := { program := "ytiffnkmbmenhfaadoor", sum := "28d3d9ffc1a24a0b6afa1c402740746e76123814cb41b90b57e8aa06627bb38b", func := "dataflow/dataflowlaw08.ParseProgram", spec := "parseProgram", inPlace := ["internal/bytealg.IndexByteString"], unfollowed := true, recurses := true, named := ["dataflow/lex.marks", "dataflow/lex.keywords"], apart := false, laid := [("dataflow/lex.keywords", laid_dataflow_lex_keywords), ("dataflow/lex.marks", laid_dataflow_lex_marks)], narrowed := true }
def ParseProgramUptoSaid : Prop := parseProgramUptoRow.holds Tryd.pinned (OpenSpec.upto parseProgramSpec)

/-- 'dataflowlaw08.ParseBack', WHERE WHAT IT READS IS OF BULK AT MOST 1048576: true; the input reads as it did. -/
def parseBackUptoRow : OpenClaim := { program := "ytiffnkmbmenhfaadoor", sum := "28d3d9ffc1a24a0b6afa1c402740746e76123814cb41b90b57e8aa06627bb38b", func := "dataflow/dataflowlaw08.ParseBack", spec := "parseBack", inPlace := ["internal/bytealg.IndexByteString"], unfollowed := true, recurses := true, named := ["dataflow/lex.marks", "dataflow/lex.keywords"], apart := false, laid := [("dataflow/lex.keywords", laid_dataflow_lex_keywords), ("dataflow/lex.marks", laid_dataflow_lex_marks)], narrowed := true }
def ParseBackUptoSaid : Prop := parseBackUptoRow.holds Tryd.pinned (OpenSpec.upto parseBackSpec)

/-- 'dataflowlaw08.ParseConcats', WHERE WHAT IT READS IS OF BULK AT MOST 1048576: true; the input reads as it did. -/
def parseConcatsUptoRow : OpenClaim := { program := "ytiffnkmbmenhfaadoor", sum := "28d3d9ffc1a24a0b6afa1c402740746e76123814cb41b90b57e8aa06627bb38b", func := "dataflow/dataflowlaw08.ParseConcats", spec := "parseConcats", inPlace := ["internal/bytealg.IndexByteString"], unfollowed := true, recurses := true, named := ["dataflow/lex.marks", "dataflow/lex.keywords"], apart := false, laid := [("dataflow/lex.keywords", laid_dataflow_lex_keywords), ("dataflow/lex.marks", laid_dataflow_lex_marks)], narrowed := true }
def ParseConcatsUptoSaid : Prop := parseConcatsUptoRow.holds Tryd.pinned (OpenSpec.upto parseConcatsSpec)

/-- 'dataflowlaw08.ParseFirst', WHERE WHAT IT READS IS OF BULK AT MOST 1048576: true; the input reads as it did. -/
def parseFirstUptoRow : OpenClaim := { program := "ytiffnkmbmenhfaadoor", sum := "28d3d9ffc1a24a0b6afa1c402740746e76123814cb41b90b57e8aa06627bb38b", func := "dataflow/dataflowlaw08.ParseFirst", spec := "parseFirst", inPlace := ["internal/bytealg.IndexByteString"], unfollowed := true, recurses := true, named := ["dataflow/lex.marks", "dataflow/lex.keywords"], apart := false, laid := [("dataflow/lex.keywords", laid_dataflow_lex_keywords), ("dataflow/lex.marks", laid_dataflow_lex_marks)], narrowed := true }
def ParseFirstUptoSaid : Prop := parseFirstUptoRow.holds Tryd.pinned (OpenSpec.upto parseFirstSpec)

/-- 'dataflowlaw08.ParseTokens', WHERE WHAT IT READS IS OF BULK AT MOST 1048576: true; the input reads as it did. -/
def parseTokensUptoRow : OpenClaim := { program := "ytiffnkmbmenhfaadoor", sum := "28d3d9ffc1a24a0b6afa1c402740746e76123814cb41b90b57e8aa06627bb38b", func := "dataflow/dataflowlaw08.ParseTokens", spec := "parseTokens", inPlace := ["internal/bytealg.IndexByteString", "internal/abi.NoEscape", "internal/bytealg.MakeNoZero"], unfollowed := true, recurses := true, named := ["dataflow/lex.marks", "dataflow/lex.keywords"], apart := false, laid := [("dataflow/lex.keywords", laid_dataflow_lex_keywords), ("dataflow/lex.marks", laid_dataflow_lex_marks)], narrowed := true }
def ParseTokensUptoSaid : Prop := parseTokensUptoRow.holds Tryd.pinned (OpenSpec.upto parseTokensSpec)

end Rows
end Go.Proofs.YtiffnkmbmenhfaaDoor
