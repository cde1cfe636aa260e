/-
  NARROWER THAN 'FOR EVERY INPUT', by the rows' own cells (each row's printed sentence says how): StreamableGrows: laid.
  DERIVED. THE GIVEN ROWS OF THIS SEAT. 1 by the template 'for every input the law returns true; each argument reads behind the call as it read before'; 0 by the template 'total and deterministic' (their statements: YtgljohmkejbclaaGreatDoorTotals.lean).
  GIVEN WITH THE SEED: the statements are not yours to turn. If you find one false, say at which input.
  Laid BY PROGRAM, IN A SANDBOX (cutbox-rows.mjs): the forced cells as the released guide's own fill.sh prints them over the translation b75b94f5f2b5e5e6… (all of the seat's roots in one cut). By AI agents, Wed Nov 11 2026. No macro, syntax, notation, axiom, sorry.
-/
import Derived.Test.YtgljohmkejbclaaGreatDoorChecked
import GoSem.Claim
import GoSem.ClaimJoined
import GoSem.ClaimMapViews
import Derived.JoinedTies
import Derived.KernelRfl
namespace Go.Proofs.YtgljohmkejbclaaGreatDoor
/- THE CELL 'sum', in the pinned program and in every row, IS THE sha256 OF THE DUMP (.gsa) THAT YtgljohmkejbclaaGreatDoorProg.lean LOADS. Nothing in Lean hashes anything: it is a label: what it is worth is what the hold of that sum in a sandbox is worth. -/
noncomputable def Tryz.pinned : Pinned := { name := "ytgljohmkejbclaagreatdoor", sum := "b75b94f5f2b5e5e60de939599f2cd8488881e237de268092d046f83fc9288a75", checked := Tryz.checked }
namespace Rows
def none {H : Type} : Left H := { results := [], args := [] }

/- WHAT THE LISTED PACKAGE-LEVEL VARIABLES READ AS WHEN THE CALL BEGINS. Each datum BY PROGRAM (the guide's laid-datum.mjs) off the statement by which the dump's own 'gosem.cut.vars' lays the variable. In a bare row this is a premise. The card (YtgljohmkejbclaaGreatDoorCards.lean) ties it to the program's text. -/
def laid_chisel_expr_tests {H : Type} : DataW H := .agg [.lit (.string [110, 111, 100, 101]), .lit (.string [116, 101, 120, 116]), .lit (.string [99, 111, 109, 109, 101, 110, 116]), .lit (.string [112, 114, 111, 99, 101, 115, 115, 105, 110, 103, 45, 105, 110, 115, 116, 114, 117, 99, 116, 105, 111, 110]), .lit (.string [100, 111, 99, 117, 109, 101, 110, 116, 45, 110, 111, 100, 101]), .lit (.string [101, 108, 101, 109, 101, 110, 116]), .lit (.string [97, 116, 116, 114, 105, 98, 117, 116, 101])]
def laid_chisel_posture_still {H : Type} : DataW H := .agg [.lit (.int .i64 0), .lit (.int .i64 0)]
def laid_chisel_posture_bad {H : Type} : DataW H := .agg [.lit (.int .i64 4), .lit (.int .i64 2)]

/-- 'chisellaw37.StreamableGrows': WHATEVER THE INPUT: true; the input reads as it did. -/
def streamableGrowsSpec : ChangeSpec := { name := "streamableGrows", fn := fun _ => fun
  | [d1, d2, d3, d4, d5, d6] => { results := [.lit (.bool true)], args := [d1, d2, d3, d4, d5, d6] }
  | _ => none }
def streamableGrowsRow : OpenClaim := { program := "ytgljohmkejbclaagreatdoor", sum := "b75b94f5f2b5e5e60de939599f2cd8488881e237de268092d046f83fc9288a75", func := "chisel/chisellaw37.StreamableGrows", spec := "streamableGrows", inPlace := ["gosem.stop:chisel/streamable.of", "gosem.stop:chisel/streamable.still", "gosem.stop:chisel/expr.literal", "internal/bytealg.IndexByteString", "internal/bytealg.IndexString", "gosem.stop:chisel/expr.validType", "gosem.stop:chisel/posture.attrs", "gosem.stop:chisel/posture.plain", "gosem.stop:(chisel/posture.pair).either", "gosem.stop:chisel/posture.loop", "gosem.stop:chisel/posture.bin", "gosem.stop:chisel/posture.free", "gosem.stop:internal/strconv.numDigits", "gosem.stop:internal/strconv.formatBase10", "gosem.stop:internal/strconv.formatBits", "gosem.stop:(*chisel/lib.call).count", "gosem.stop:(*chisel/lib.call).empty", "gosem.stop:(*chisel/lib.call).ends", "gosem.stop:(*chisel/lib.call).reverse", "gosem.stop:(*chisel/lib.call).insert", "gosem.stop:(*chisel/lib.call).remove", "gosem.stop:(*chisel/lib.call).subsequence", "gosem.stop:(*chisel/lib.call).distinct", "gosem.stop:(*chisel/lib.call).indexOf", "gosem.stop:(*chisel/lib.call).deep", "gosem.stop:(*chisel/lib.call).howMany", "gosem.stop:(*chisel/lib.call).constant", "gosem.stop:(*chisel/lib.call).boolean", "gosem.stop:(*chisel/lib.call).data", "gosem.stop:(*chisel/lib.call).fail", "gosem.stop:(*chisel/lib.call).string", "gosem.stop:(*chisel/lib.call).length", "gosem.stop:(*chisel/lib.call).changed", "gosem.stop:(*chisel/lib.call).join", "gosem.stop:(*chisel/lib.call).substring", "gosem.stop:(*chisel/lib.call).contains", "gosem.stop:(*chisel/lib.call).around", "gosem.stop:(*chisel/lib.call).translate", "gosem.stop:(*chisel/lib.call).points", "gosem.stop:(*chisel/lib.call).fromPoints", "gosem.stop:(*chisel/lib.call).compare", "internal/abi.NoEscape", "internal/bytealg.MakeNoZero", "gosem.stop:(*chisel/lib.call).concat", "gosem.stop:chisel/lib.patterns", "gosem.stop:chisel/lib.numbers", "gosem.stop:chisel/lib.sums", "gosem.stop:chisel/lib.dates", "gosem.stop:chisel/lib.nodes", "gosem.stop:chisel/lib.mapping", "gosem.stop:chisel/lib.arrays", "gosem.stop:chisel/scope.placed", "gosem.stop:chisel/scope.calling", "gosem.stop:chisel/posture.strict", "gosem.stop:chisel/posture.composed", "gosem.stop:(chisel/posture.look).need", "gosem.stop:(chisel/posture.look).in", "gosem.stop:chisel/posture.walk", "gosem.stop:(chisel/posture.look).each", "gosem.stop:(chisel/posture.look).choose", "gosem.stop:(chisel/posture.look).other", "gosem.stop:chisel/streamable.safe", "gosem.stop:chisel/streamable.attrs"], unfollowed := true, recurses := true, named := ["chisel/posture.bad", "chisel/posture.still", "internal/bytealg.MaxLen", "chisel/expr.tests"], apart := false, laid := [("chisel/expr.tests", laid_chisel_expr_tests), ("chisel/posture.still", laid_chisel_posture_still), ("chisel/posture.bad", laid_chisel_posture_bad)] }
def StreamableGrowsSaid : Prop := streamableGrowsRow.holds Tryz.pinned (OpenSpec.ofChange streamableGrowsSpec)

/-- ITS FALSE NEIGHBOUR: 'it returns false'. Refute it at one input. -/
def streamableGrowsWrong : ChangeSpec := { name := "streamableGrows", fn := fun _ => fun
  | [d1, d2, d3, d4, d5, d6] => { results := [.lit (.bool false)], args := [d1, d2, d3, d4, d5, d6] }
  | _ => none }
def StreamableGrowsWrongFalsely : Prop := streamableGrowsRow.holds Tryz.pinned (OpenSpec.ofChange streamableGrowsWrong)

/- THE SECOND FORM. 'bulk': how many values and letters a reading holds, each counted each time it is reached (what is shared counts as often as it is met; a slice's spare places count too). A statement '..UptoSaid' is the law's where the arguments, and the package variables that the reading takes, are together of bulk at most 1048576: NARROWER than '..Said'. Prove '..Said' where nothing that the law and all that it calls make is longer than what came in: it says more and counts as full. Else prove '..UptoSaid'. A law counts once. -/
mutual
def uptoBulk {H : Type} : DataW H → Nat
  | .lit (.string bytes) => bytes.length + 1
  | .lit _ => 1
  | .nil => 1
  | .ptr d => uptoBulk d + 1
  | .slice elems spare => uptoBulkAll elems + uptoBulkAll spare + 1
  | .agg parts => uptoBulkAll parts + 1
  | .iface _ d => uptoBulk d + 1
  | .map entries => uptoBulkEntries entries + 1
  | .held _ => 1
def uptoBulkAll {H : Type} : List (DataW H) → Nat
  | [] => 0
  | d :: r => uptoBulk d + uptoBulkAll r
def uptoBulkEntries {H : Type} : List (Lit × DataW H) → Nat
  | [] => 0
  | x :: r => uptoBulkEntry x + uptoBulkEntries r
def uptoBulkEntry {H : Type} : Lit × DataW H → Nat
  | (.string bytes, d) => bytes.length + uptoBulk d + 1
  | (_, d) => uptoBulk d + 1
 end
def uptoSmall : (H : Type) → List (DataW H) → Bool := fun _ ds => decide (uptoBulkAll ds ≤ 1048576)
def OpenSpec.upto (s : _root_.Go.ChangeSpec) : _root_.Go.OpenSpec := { _root_.Go.OpenSpec.ofChange s with cond := some uptoSmall }

/-- 'chisellaw37.StreamableGrows', WHERE WHAT IT READS IS OF BULK AT MOST 1048576: true; the input reads as it did. -/
def streamableGrowsUptoRow : OpenClaim := { program := "ytgljohmkejbclaagreatdoor", sum := "b75b94f5f2b5e5e60de939599f2cd8488881e237de268092d046f83fc9288a75", func := "chisel/chisellaw37.StreamableGrows", spec := "streamableGrows", inPlace := ["gosem.stop:chisel/streamable.of", "gosem.stop:chisel/streamable.still", "gosem.stop:chisel/expr.literal", "internal/bytealg.IndexByteString", "internal/bytealg.IndexString", "gosem.stop:chisel/expr.validType", "gosem.stop:chisel/posture.attrs", "gosem.stop:chisel/posture.plain", "gosem.stop:(chisel/posture.pair).either", "gosem.stop:chisel/posture.loop", "gosem.stop:chisel/posture.bin", "gosem.stop:chisel/posture.free", "gosem.stop:internal/strconv.numDigits", "gosem.stop:internal/strconv.formatBase10", "gosem.stop:internal/strconv.formatBits", "gosem.stop:(*chisel/lib.call).count", "gosem.stop:(*chisel/lib.call).empty", "gosem.stop:(*chisel/lib.call).ends", "gosem.stop:(*chisel/lib.call).reverse", "gosem.stop:(*chisel/lib.call).insert", "gosem.stop:(*chisel/lib.call).remove", "gosem.stop:(*chisel/lib.call).subsequence", "gosem.stop:(*chisel/lib.call).distinct", "gosem.stop:(*chisel/lib.call).indexOf", "gosem.stop:(*chisel/lib.call).deep", "gosem.stop:(*chisel/lib.call).howMany", "gosem.stop:(*chisel/lib.call).constant", "gosem.stop:(*chisel/lib.call).boolean", "gosem.stop:(*chisel/lib.call).data", "gosem.stop:(*chisel/lib.call).fail", "gosem.stop:(*chisel/lib.call).string", "gosem.stop:(*chisel/lib.call).length", "gosem.stop:(*chisel/lib.call).changed", "gosem.stop:(*chisel/lib.call).join", "gosem.stop:(*chisel/lib.call).substring", "gosem.stop:(*chisel/lib.call).contains", "gosem.stop:(*chisel/lib.call).around", "gosem.stop:(*chisel/lib.call).translate", "gosem.stop:(*chisel/lib.call).points", "gosem.stop:(*chisel/lib.call).fromPoints", "gosem.stop:(*chisel/lib.call).compare", "internal/abi.NoEscape", "internal/bytealg.MakeNoZero", "gosem.stop:(*chisel/lib.call).concat", "gosem.stop:chisel/lib.patterns", "gosem.stop:chisel/lib.numbers", "gosem.stop:chisel/lib.sums", "gosem.stop:chisel/lib.dates", "gosem.stop:chisel/lib.nodes", "gosem.stop:chisel/lib.mapping", "gosem.stop:chisel/lib.arrays", "gosem.stop:chisel/scope.placed", "gosem.stop:chisel/scope.calling", "gosem.stop:chisel/posture.strict", "gosem.stop:chisel/posture.composed", "gosem.stop:(chisel/posture.look).need", "gosem.stop:(chisel/posture.look).in", "gosem.stop:chisel/posture.walk", "gosem.stop:(chisel/posture.look).each", "gosem.stop:(chisel/posture.look).choose", "gosem.stop:(chisel/posture.look).other", "gosem.stop:chisel/streamable.safe", "gosem.stop:chisel/streamable.attrs"], unfollowed := true, recurses := true, named := ["chisel/posture.bad", "chisel/posture.still", "internal/bytealg.MaxLen", "chisel/expr.tests"], apart := false, laid := [("chisel/expr.tests", laid_chisel_expr_tests), ("chisel/posture.still", laid_chisel_posture_still), ("chisel/posture.bad", laid_chisel_posture_bad)], narrowed := true }
def StreamableGrowsUptoSaid : Prop := streamableGrowsUptoRow.holds Tryz.pinned (OpenSpec.upto streamableGrowsSpec)

end Rows
end Go.Proofs.YtgljohmkejbclaaGreatDoor
