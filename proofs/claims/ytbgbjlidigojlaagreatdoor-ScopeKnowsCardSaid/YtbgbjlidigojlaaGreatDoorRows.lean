/-
  NARROWER THAN 'FOR EVERY INPUT', by the rows' own cells (each row's printed sentence says how): ScopeKnows: laid.
  DERIVED. THE GIVEN ROWS OF THIS SEAT. 1 by the template 'for every input the law returns true; each argument reads behind the call as it read before'; 0 by the template 'total and deterministic' (their statements: YtbgbjlidigojlaaGreatDoorTotals.lean).
  GIVEN WITH THE SEED: the statements are not yours to turn. If you find one false, say at which input.
  Laid BY PROGRAM, IN A SANDBOX (cutbox-rows.mjs): the forced cells as the released guide's own fill.sh prints them over the translation 70ef870301f3cfbb… (all of the seat's roots in one cut). By AI agents, Wed Nov 11 2026. No macro, syntax, notation, axiom, sorry.
-/
import Derived.Test.YtbgbjlidigojlaaGreatDoorChecked
import GoSem.Claim
import GoSem.ClaimJoined
import GoSem.ClaimMapViews
import Derived.JoinedTies
import Derived.KernelRfl
namespace Go.Proofs.YtbgbjlidigojlaaGreatDoor
/- THE CELL 'sum', in the pinned program and in every row, IS THE sha256 OF THE DUMP (.gsa) THAT YtbgbjlidigojlaaGreatDoorProg.lean LOADS. Nothing in Lean hashes anything: it is a label: what it is worth is what the hold of that sum in a sandbox is worth. -/
noncomputable def Tryz.pinned : Pinned := { name := "ytbgbjlidigojlaagreatdoor", sum := "70ef870301f3cfbb29bdf6aeaba979df1958e2b82c5782118b85493091b90e19", checked := Tryz.checked }
namespace Rows
def none {H : Type} : Left H := { results := [], args := [] }

/- WHAT THE LISTED PACKAGE-LEVEL VARIABLES READ AS WHEN THE CALL BEGINS. Each datum BY PROGRAM (the guide's laid-datum.mjs) off the statement by which the dump's own 'gosem.cut.vars' lays the variable. In a bare row this is a premise. The card (YtbgbjlidigojlaaGreatDoorCards.lean) ties it to the program's text. -/
def laid_internal_strconv_uint64pow10 {H : Type} : DataW H := .agg [.lit (.int .u64 1), .lit (.int .u64 10), .lit (.int .u64 100), .lit (.int .u64 1000), .lit (.int .u64 10000), .lit (.int .u64 100000), .lit (.int .u64 1000000), .lit (.int .u64 10000000), .lit (.int .u64 100000000), .lit (.int .u64 1000000000), .lit (.int .u64 10000000000), .lit (.int .u64 100000000000), .lit (.int .u64 1000000000000), .lit (.int .u64 10000000000000), .lit (.int .u64 100000000000000), .lit (.int .u64 1000000000000000), .lit (.int .u64 10000000000000000), .lit (.int .u64 100000000000000000), .lit (.int .u64 1000000000000000000), .lit (.int .u64 10000000000000000000)]
def laid_chisel_expr_tests {H : Type} : DataW H := .agg [.lit (.string [110, 111, 100, 101]), .lit (.string [116, 101, 120, 116]), .lit (.string [99, 111, 109, 109, 101, 110, 116]), .lit (.string [112, 114, 111, 99, 101, 115, 115, 105, 110, 103, 45, 105, 110, 115, 116, 114, 117, 99, 116, 105, 111, 110]), .lit (.string [100, 111, 99, 117, 109, 101, 110, 116, 45, 110, 111, 100, 101]), .lit (.string [101, 108, 101, 109, 101, 110, 116]), .lit (.string [97, 116, 116, 114, 105, 98, 117, 116, 101])]

/-- 'chisellaw20.ScopeKnows': WHATEVER THE INPUT: true; the input reads as it did. -/
def scopeKnowsSpec : ChangeSpec := { name := "scopeKnows", fn := fun _ => fun
  | [d1, d2] => { results := [.lit (.bool true)], args := [d1, d2] }
  | _ => none }
def scopeKnowsRow : OpenClaim := { program := "ytbgbjlidigojlaagreatdoor", sum := "70ef870301f3cfbb29bdf6aeaba979df1958e2b82c5782118b85493091b90e19", func := "chisel/chisellaw20.ScopeKnows", spec := "scopeKnows", inPlace := ["gosem.stop:internal/strconv.formatBits", "gosem.stop:(*chisel/lib.call).count", "gosem.stop:(*chisel/lib.call).empty", "gosem.stop:(*chisel/lib.call).ends", "gosem.stop:(*chisel/lib.call).reverse", "gosem.stop:(*chisel/lib.call).insert", "gosem.stop:(*chisel/lib.call).remove", "gosem.stop:(*chisel/lib.call).subsequence", "gosem.stop:(*chisel/lib.call).distinct", "gosem.stop:(*chisel/lib.call).indexOf", "gosem.stop:(*chisel/lib.call).deep", "gosem.stop:(*chisel/lib.call).howMany", "gosem.stop:(*chisel/lib.call).constant", "gosem.stop:(*chisel/lib.call).boolean", "gosem.stop:(*chisel/lib.call).data", "gosem.stop:(*chisel/lib.call).fail", "gosem.stop:(*chisel/lib.call).string", "gosem.stop:(*chisel/lib.call).length", "gosem.stop:(*chisel/lib.call).changed", "gosem.stop:(*chisel/lib.call).join", "gosem.stop:(*chisel/lib.call).substring", "gosem.stop:(*chisel/lib.call).contains", "gosem.stop:(*chisel/lib.call).around", "gosem.stop:(*chisel/lib.call).translate", "gosem.stop:(*chisel/lib.call).points", "gosem.stop:(*chisel/lib.call).fromPoints", "gosem.stop:(*chisel/lib.call).compare", "internal/abi.NoEscape", "internal/bytealg.MakeNoZero", "gosem.stop:(*chisel/lib.call).concat", "gosem.stop:(*chisel/lib.call).matches", "gosem.stop:(*chisel/lib.call).replace", "gosem.stop:(*chisel/lib.call).words", "gosem.stop:(*chisel/lib.call).tokenize", "gosem.stop:(*chisel/lib.call).number", "gosem.stop:(*chisel/lib.call).abs", "gosem.stop:(*chisel/lib.call).round", "gosem.stop:(*chisel/lib.call).formatInteger", "gosem.stop:(*chisel/lib.call).formatNumber", "gosem.stop:(*chisel/lib.call).sum", "gosem.stop:(*chisel/lib.call).avg", "gosem.stop:(*chisel/lib.call).extreme", "gosem.stop:(*chisel/lib.call).dateFrom", "gosem.stop:(*chisel/lib.call).timeFrom", "gosem.stop:(*chisel/lib.call).zoneFrom", "gosem.stop:(*chisel/lib.call).adjust", "gosem.stop:(*chisel/lib.call).formatDate", "gosem.stop:(*chisel/lib.call).nodeName", "gosem.stop:(*chisel/lib.call).root", "gosem.stop:(*chisel/lib.call).nodeKind", "gosem.stop:(*chisel/lib.call).hasChildren", "gosem.stop:(*chisel/lib.call).id", "gosem.stop:(*chisel/lib.call).mapSize", "gosem.stop:(*chisel/lib.call).mapKeys", "gosem.stop:(*chisel/lib.call).mapGet", "gosem.stop:(*chisel/lib.call).mapPut", "gosem.stop:(*chisel/lib.call).mapRemove", "gosem.stop:(*chisel/lib.call).mapEntry", "gosem.stop:(*chisel/lib.call).mapMerge", "gosem.stop:(*chisel/lib.call).arraySize", "gosem.stop:(*chisel/lib.call).arrayGet", "gosem.stop:(*chisel/lib.call).arrayAppend", "gosem.stop:(*chisel/lib.call).arrayInsert", "gosem.stop:(*chisel/lib.call).arrayRemove", "gosem.stop:(*chisel/lib.call).arrayReverse", "gosem.stop:(*chisel/lib.call).arrayFrom", "gosem.stop:(*chisel/lib.call).arrayJoin", "gosem.stop:(*chisel/lib.call).flatten", "gosem.stop:chisel/expr.literal", "internal/bytealg.IndexByteString", "internal/bytealg.IndexString", "gosem.stop:chisel/expr.validType", "gosem.stop:chisel/expr.validTest"], unfollowed := true, recurses := true, named := ["internal/strconv.uint64pow10", "internal/bytealg.MaxLen", "chisel/expr.tests"], apart := false, laid := [("internal/strconv.uint64pow10", laid_internal_strconv_uint64pow10), ("chisel/expr.tests", laid_chisel_expr_tests)] }
def ScopeKnowsSaid : Prop := scopeKnowsRow.holds Tryz.pinned (OpenSpec.ofChange scopeKnowsSpec)

/-- ITS FALSE NEIGHBOUR: 'it returns false'. Refute it at one input. -/
def scopeKnowsWrong : ChangeSpec := { name := "scopeKnows", fn := fun _ => fun
  | [d1, d2] => { results := [.lit (.bool false)], args := [d1, d2] }
  | _ => none }
def ScopeKnowsWrongFalsely : Prop := scopeKnowsRow.holds Tryz.pinned (OpenSpec.ofChange scopeKnowsWrong)

/- THE SECOND FORM. 'bulk': how many values and letters a reading holds, each counted each time it is reached (what is shared counts as often as it is met; a slice's spare places count too). A statement '..UptoSaid' is the law's where the arguments, and the package variables that the reading takes, are together of bulk at most 1048576: NARROWER than '..Said'. Prove '..Said' where nothing that the law and all that it calls make is longer than what came in: it says more and counts as full. Else prove '..UptoSaid'. A law counts once. -/
mutual
def uptoBulk {H : Type} : DataW H → Nat
  | .lit (.string bytes) => bytes.length + 1
  | .lit _ => 1
  | .nil => 1
  | .ptr d => uptoBulk d + 1
  | .slice elems spare => uptoBulkAll elems + uptoBulkAll spare + 1
  | .agg parts => uptoBulkAll parts + 1
  | .iface _ d => uptoBulk d + 1
  | .map entries => uptoBulkEntries entries + 1
  | .held _ => 1
def uptoBulkAll {H : Type} : List (DataW H) → Nat
  | [] => 0
  | d :: r => uptoBulk d + uptoBulkAll r
def uptoBulkEntries {H : Type} : List (Lit × DataW H) → Nat
  | [] => 0
  | x :: r => uptoBulkEntry x + uptoBulkEntries r
def uptoBulkEntry {H : Type} : Lit × DataW H → Nat
  | (.string bytes, d) => bytes.length + uptoBulk d + 1
  | (_, d) => uptoBulk d + 1
 end
def uptoSmall : (H : Type) → List (DataW H) → Bool := fun _ ds => decide (uptoBulkAll ds ≤ 1048576)
def OpenSpec.upto (s : _root_.Go.ChangeSpec) : _root_.Go.OpenSpec := { _root_.Go.OpenSpec.ofChange s with cond := some uptoSmall }

/-- 'chisellaw20.ScopeKnows', WHERE WHAT IT READS IS OF BULK AT MOST 1048576: true; the input reads as it did. -/
def scopeKnowsUptoRow : OpenClaim := { program := "ytbgbjlidigojlaagreatdoor", sum := "70ef870301f3cfbb29bdf6aeaba979df1958e2b82c5782118b85493091b90e19", func := "chisel/chisellaw20.ScopeKnows", spec := "scopeKnows", inPlace := ["gosem.stop:internal/strconv.formatBits", "gosem.stop:(*chisel/lib.call).count", "gosem.stop:(*chisel/lib.call).empty", "gosem.stop:(*chisel/lib.call).ends", "gosem.stop:(*chisel/lib.call).reverse", "gosem.stop:(*chisel/lib.call).insert", "gosem.stop:(*chisel/lib.call).remove", "gosem.stop:(*chisel/lib.call).subsequence", "gosem.stop:(*chisel/lib.call).distinct", "gosem.stop:(*chisel/lib.call).indexOf", "gosem.stop:(*chisel/lib.call).deep", "gosem.stop:(*chisel/lib.call).howMany", "gosem.stop:(*chisel/lib.call).constant", "gosem.stop:(*chisel/lib.call).boolean", "gosem.stop:(*chisel/lib.call).data", "gosem.stop:(*chisel/lib.call).fail", "gosem.stop:(*chisel/lib.call).string", "gosem.stop:(*chisel/lib.call).length", "gosem.stop:(*chisel/lib.call).changed", "gosem.stop:(*chisel/lib.call).join", "gosem.stop:(*chisel/lib.call).substring", "gosem.stop:(*chisel/lib.call).contains", "gosem.stop:(*chisel/lib.call).around", "gosem.stop:(*chisel/lib.call).translate", "gosem.stop:(*chisel/lib.call).points", "gosem.stop:(*chisel/lib.call).fromPoints", "gosem.stop:(*chisel/lib.call).compare", "internal/abi.NoEscape", "internal/bytealg.MakeNoZero", "gosem.stop:(*chisel/lib.call).concat", "gosem.stop:(*chisel/lib.call).matches", "gosem.stop:(*chisel/lib.call).replace", "gosem.stop:(*chisel/lib.call).words", "gosem.stop:(*chisel/lib.call).tokenize", "gosem.stop:(*chisel/lib.call).number", "gosem.stop:(*chisel/lib.call).abs", "gosem.stop:(*chisel/lib.call).round", "gosem.stop:(*chisel/lib.call).formatInteger", "gosem.stop:(*chisel/lib.call).formatNumber", "gosem.stop:(*chisel/lib.call).sum", "gosem.stop:(*chisel/lib.call).avg", "gosem.stop:(*chisel/lib.call).extreme", "gosem.stop:(*chisel/lib.call).dateFrom", "gosem.stop:(*chisel/lib.call).timeFrom", "gosem.stop:(*chisel/lib.call).zoneFrom", "gosem.stop:(*chisel/lib.call).adjust", "gosem.stop:(*chisel/lib.call).formatDate", "gosem.stop:(*chisel/lib.call).nodeName", "gosem.stop:(*chisel/lib.call).root", "gosem.stop:(*chisel/lib.call).nodeKind", "gosem.stop:(*chisel/lib.call).hasChildren", "gosem.stop:(*chisel/lib.call).id", "gosem.stop:(*chisel/lib.call).mapSize", "gosem.stop:(*chisel/lib.call).mapKeys", "gosem.stop:(*chisel/lib.call).mapGet", "gosem.stop:(*chisel/lib.call).mapPut", "gosem.stop:(*chisel/lib.call).mapRemove", "gosem.stop:(*chisel/lib.call).mapEntry", "gosem.stop:(*chisel/lib.call).mapMerge", "gosem.stop:(*chisel/lib.call).arraySize", "gosem.stop:(*chisel/lib.call).arrayGet", "gosem.stop:(*chisel/lib.call).arrayAppend", "gosem.stop:(*chisel/lib.call).arrayInsert", "gosem.stop:(*chisel/lib.call).arrayRemove", "gosem.stop:(*chisel/lib.call).arrayReverse", "gosem.stop:(*chisel/lib.call).arrayFrom", "gosem.stop:(*chisel/lib.call).arrayJoin", "gosem.stop:(*chisel/lib.call).flatten", "gosem.stop:chisel/expr.literal", "internal/bytealg.IndexByteString", "internal/bytealg.IndexString", "gosem.stop:chisel/expr.validType", "gosem.stop:chisel/expr.validTest"], unfollowed := true, recurses := true, named := ["internal/strconv.uint64pow10", "internal/bytealg.MaxLen", "chisel/expr.tests"], apart := false, laid := [("internal/strconv.uint64pow10", laid_internal_strconv_uint64pow10), ("chisel/expr.tests", laid_chisel_expr_tests)], narrowed := true }
def ScopeKnowsUptoSaid : Prop := scopeKnowsUptoRow.holds Tryz.pinned (OpenSpec.upto scopeKnowsSpec)

end Rows
end Go.Proofs.YtbgbjlidigojlaaGreatDoor
