/-
  NARROWER THAN 'FOR EVERY INPUT', by the rows' own cells (each row's printed sentence says how): PostureDeep: laid.
  DERIVED. THE GIVEN ROWS OF THIS SEAT. 1 by the template 'for every input the law returns true; each argument reads behind the call as it read before'; 0 by the template 'total and deterministic' (their statements: YtfbeheihdjglgaaDoorTotals.lean).
  GIVEN WITH THE SEED: the statements are not yours to turn. If you find one false, say at which input.
  Laid BY PROGRAM, IN A SANDBOX (cutbox-rows.mjs): the forced cells as the released guide's own fill.sh prints them over the translation 5fc001f9afd34a8c… (all of the seat's roots in one cut). By AI agents, Wed Nov 11 2026. No macro, syntax, notation, axiom, sorry.
-/
import Derived.Test.YtfbeheihdjglgaaDoorChecked
import GoSem.Claim
import GoSem.ClaimJoined
import GoSem.ClaimMapViews
import Derived.JoinedTies
import Derived.KernelRfl
namespace Go.Proofs.YtfbeheihdjglgaaDoor
/- THE CELL 'sum', in the pinned program and in every row, IS THE sha256 OF THE DUMP (.gsa) THAT YtfbeheihdjglgaaDoorProg.lean LOADS. Nothing in Lean hashes anything: it is a label: what it is worth is what the hold of that sum in a sandbox is worth. -/
noncomputable def Tryd.pinned : Pinned := { name := "ytfbeheihdjglgaadoor", sum := "5fc001f9afd34a8cf131cfd185550d5e0e3bd9aa140a67e322efe98cb9379c8d", checked := Tryd.checked }
namespace Rows
def none {H : Type} : Left H := { results := [], args := [] }

/- WHAT THE LISTED PACKAGE-LEVEL VARIABLES READ AS WHEN THE CALL BEGINS. Each datum BY PROGRAM (the guide's laid-datum.mjs) off the statement by which the dump's own 'gosem.cut.vars' lays the variable. In a bare row this is a premise. The card (YtfbeheihdjglgaaDoorCards.lean) ties it to the program's text. -/
def laid_chisel_posture_still {H : Type} : DataW H := .agg [.lit (.int .i64 0), .lit (.int .i64 0)]
def laid_chisel_posture_bad {H : Type} : DataW H := .agg [.lit (.int .i64 4), .lit (.int .i64 2)]

/-- 'chisellaw36.PostureDeep': WHATEVER THE INPUT: true; the input reads as it did. -/
def postureDeepSpec : ChangeSpec := { name := "postureDeep", fn := fun _ => fun
  | [d1, d2, d3] => { results := [.lit (.bool true)], args := [d1, d2, d3] }
  | _ => none }
def postureDeepRow : OpenClaim := { program := "ytfbeheihdjglgaadoor", sum := "5fc001f9afd34a8cf131cfd185550d5e0e3bd9aa140a67e322efe98cb9379c8d", func := "chisel/chisellaw36.PostureDeep", spec := "postureDeep", inPlace := ["gosem.stop:chisel/expr.literal", "internal/bytealg.IndexByteString", "internal/bytealg.IndexString", "gosem.stop:chisel/expr.reserved", "gosem.stop:chisel/expr.validType", "gosem.stop:slices.Contains[[]string,string]", "gosem.stop:slices.ContainsFunc[[]chisel/api.Expr,chisel/api.Expr]", "gosem.stop:chisel/posture.plain", "gosem.stop:chisel/posture.inspect", "gosem.stop:chisel/posture.loop", "gosem.stop:chisel/posture.calls", "gosem.stop:chisel/scope.Known", "gosem.stop:chisel/posture.strict", "gosem.stop:chisel/posture.composed", "gosem.stop:(chisel/posture.look).apply", "gosem.stop:(chisel/posture.look).each", "gosem.stop:(chisel/posture.look).need", "gosem.stop:(chisel/posture.look).sorts", "gosem.stop:(chisel/posture.look).sound", "gosem.stop:(chisel/posture.look).passed", "gosem.stop:chisel/chiselref36.absorbed", "gosem.stop:chisel/chiselref36.apply", "gosem.stop:chisel/chiselref36.each", "gosem.stop:chisel/chiselref36.need", "gosem.stop:chisel/chiselref36.sorts", "gosem.stop:chisel/chiselref36.at", "gosem.stop:chisel/chiselref36.sound", "gosem.stop:chisel/chiselref36.merge", "gosem.stop:chisel/chiselref36.inspected", "gosem.stop:chisel/chiselref36.try", "gosem.stop:chisel/chiselref36.passed"], unfollowed := true, recurses := true, named := ["chisel/posture.bad", "chisel/posture.still", "internal/bytealg.MaxLen"], apart := false, laid := [("chisel/posture.still", laid_chisel_posture_still), ("chisel/posture.bad", laid_chisel_posture_bad)] }
def PostureDeepSaid : Prop := postureDeepRow.holds Tryd.pinned (OpenSpec.ofChange postureDeepSpec)

/-- ITS FALSE NEIGHBOUR: 'it returns false'. Refute it at one input. -/
def postureDeepWrong : ChangeSpec := { name := "postureDeep", fn := fun _ => fun
  | [d1, d2, d3] => { results := [.lit (.bool false)], args := [d1, d2, d3] }
  | _ => none }
def PostureDeepWrongFalsely : Prop := postureDeepRow.holds Tryd.pinned (OpenSpec.ofChange postureDeepWrong)

/- THE SECOND FORM. 'bulk': how many values and letters a reading holds, each counted each time it is reached (what is shared counts as often as it is met; a slice's spare places count too). A statement '..UptoSaid' is the law's where the arguments, and the package variables that the reading takes, are together of bulk at most 1048576: NARROWER than '..Said'. Prove '..Said' where nothing that the law and all that it calls make is longer than what came in: it says more and counts as full. Else prove '..UptoSaid'. A law counts once. -/
mutual
def uptoBulk {H : Type} : DataW H → Nat
  | .lit (.string bytes) => bytes.length + 1
  | .lit _ => 1
  | .nil => 1
  | .ptr d => uptoBulk d + 1
  | .slice elems spare => uptoBulkAll elems + uptoBulkAll spare + 1
  | .agg parts => uptoBulkAll parts + 1
  | .iface _ d => uptoBulk d + 1
  | .map entries => uptoBulkEntries entries + 1
  | .held _ => 1
def uptoBulkAll {H : Type} : List (DataW H) → Nat
  | [] => 0
  | d :: r => uptoBulk d + uptoBulkAll r
def uptoBulkEntries {H : Type} : List (Lit × DataW H) → Nat
  | [] => 0
  | x :: r => uptoBulkEntry x + uptoBulkEntries r
def uptoBulkEntry {H : Type} : Lit × DataW H → Nat
  | (.string bytes, d) => bytes.length + uptoBulk d + 1
  | (_, d) => uptoBulk d + 1
 end
def uptoSmall : (H : Type) → List (DataW H) → Bool := fun _ ds => decide (uptoBulkAll ds ≤ 1048576)
def OpenSpec.upto (s : _root_.Go.ChangeSpec) : _root_.Go.OpenSpec := { _root_.Go.OpenSpec.ofChange s with cond := some uptoSmall }

/-- 'chisellaw36.PostureDeep', WHERE WHAT IT READS IS OF BULK AT MOST 1048576: true; the input reads as it did. -/
def postureDeepUptoRow : OpenClaim := { program := "ytfbeheihdjglgaadoor", sum := "5fc001f9afd34a8cf131cfd185550d5e0e3bd9aa140a67e322efe98cb9379c8d", func := "chisel/chisellaw36.PostureDeep", spec := "postureDeep", inPlace := ["gosem.stop:chisel/expr.literal", "internal/bytealg.IndexByteString", "internal/bytealg.IndexString", "gosem.stop:chisel/expr.reserved", "gosem.stop:chisel/expr.validType", "gosem.stop:slices.Contains[[]string,string]", "gosem.stop:slices.ContainsFunc[[]chisel/api.Expr,chisel/api.Expr]", "gosem.stop:chisel/posture.plain", "gosem.stop:chisel/posture.inspect", "gosem.stop:chisel/posture.loop", "gosem.stop:chisel/posture.calls", "gosem.stop:chisel/scope.Known", "gosem.stop:chisel/posture.strict", "gosem.stop:chisel/posture.composed", "gosem.stop:(chisel/posture.look).apply", "gosem.stop:(chisel/posture.look).each", "gosem.stop:(chisel/posture.look).need", "gosem.stop:(chisel/posture.look).sorts", "gosem.stop:(chisel/posture.look).sound", "gosem.stop:(chisel/posture.look).passed", "gosem.stop:chisel/chiselref36.absorbed", "gosem.stop:chisel/chiselref36.apply", "gosem.stop:chisel/chiselref36.each", "gosem.stop:chisel/chiselref36.need", "gosem.stop:chisel/chiselref36.sorts", "gosem.stop:chisel/chiselref36.at", "gosem.stop:chisel/chiselref36.sound", "gosem.stop:chisel/chiselref36.merge", "gosem.stop:chisel/chiselref36.inspected", "gosem.stop:chisel/chiselref36.try", "gosem.stop:chisel/chiselref36.passed"], unfollowed := true, recurses := true, named := ["chisel/posture.bad", "chisel/posture.still", "internal/bytealg.MaxLen"], apart := false, laid := [("chisel/posture.still", laid_chisel_posture_still), ("chisel/posture.bad", laid_chisel_posture_bad)], narrowed := true }
def PostureDeepUptoSaid : Prop := postureDeepUptoRow.holds Tryd.pinned (OpenSpec.upto postureDeepSpec)

end Rows
end Go.Proofs.YtfbeheihdjglgaaDoor
