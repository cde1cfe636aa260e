/- Part of the proof that the law PostureDeep answers true: what the evaluator is handed. No condition. -/
import Derived.Test.YtfbeheihdjglgaaDoorProg
import Derived.Test.YtfbeheihdjglgaaDoorPdD
import Derived.KernelRfl
namespace Go.Proofs.YtfbeheihdjglgaaDoor
open Go Go.Sh Go.Pd
/-- the variables that are read: their cells -/
def kBs : List (Nat × Nat × List SV) := [(0, 45, [.int .i64 (4), .int .i64 (2)]), (1, 45, [.int .i64 (0), .int .i64 (0)])]
/-- the struct types that are compared -/
def kE0 (t : Nat) : Bool := (Nat.beq t 25 || (Nat.beq t 27 || (Nat.beq t 29 || Nat.beq t 45)))
def kE : EE := ⟨kE0, fun _ _ _ => .bad, fun _ _ _ => .bad, fun _ _ => .bad⟩
/-- the externs that are called -/
def kX (f : Nat) : Option XK := cond (Nat.beq f 92) (some .indexByteStr) none
def kW : KRow := ⟨0, [], [], .bool true, none⟩
/-- a heap of blocks that are only read -/
noncomputable def kHp (K : Hp) : List (Nat × Nat × List SV) → Hp
  | [] => K
  | x :: bs => (kHp K bs).set x.1 (.ro x.2.1 x.2.2)
/-- the row of an outer function, at i instructions of a kind -/
def kTop (m cnt : Nat) : KRow := ⟨0, [topV 3 cnt, .opq 204], nestBs 3 m cnt, .tup [.opq 205, .opq 206], none⟩
/-- the externs, and the calls that are known: posture.Body (4), chiselref36.Body (5), works (6) -/
def kY (m cnt f : Nat) : Option XK := cond (Nat.beq f 4) (some (.known [kTop m cnt])) (cond (Nat.beq f 5) (some (.known [kTop m cnt])) (cond (Nat.beq f 6) (some (.known [kW])) (kX f)))
def kO (j m : Nat) : PO := ⟨none, none, none, none, j, m⟩
noncomputable def kLaw (j m : Nat) : Bool := (ev (pdE kE0 (kO j m)) (kY m (Nat.add 195 j)) Tryd.prog 1001).f.f 3 [.opq 300, .opq 301, .opq 204] ⟨kHp .e kBs, 3, big⟩ (rowEnd ⟨3, [.opq 300, .opq 301, .opq 204], [], .bool true, none⟩) (fun _ _ => false)
end Go.Proofs.YtfbeheihdjglgaaDoor
