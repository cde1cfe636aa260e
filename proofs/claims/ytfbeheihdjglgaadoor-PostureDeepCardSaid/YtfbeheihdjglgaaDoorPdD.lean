/- Part of the proof that the law PostureDeep answers true: what unknown numbers are compared with. No condition. -/
import Derived.Test.YtfbeheihdjglgaaDoorSh
set_option linter.unusedSectionVars false
set_option linter.unusedSimpArgs false
set_option linter.unusedVariables false
namespace Go.Pd
open Go Go.Sh
/-- the cells of an instruction ahead of its list, but for its kind -/
def preT : List SV := [.str 0 0, .str 0 0, .nils, .nils, .bool false, .int .i64 (0), .str 0 0, .str 0 0, .int .i64 (0), .int .i64 (0), .str 0 0, .int .i64 (0), .int .i64 (0), .str 0 0, .int .i64 (0), .int .i64 (0), .int .i64 (0), .str 0 0, .str 0 0, .nils, .nils, .int .i64 (0), .str 0 0, .str 0 0, .int .i64 (0), .int .i64 (0), .str 0 0, .int .i64 (0), .int .i64 (0), .str 0 0, .int .i64 (0), .int .i64 (0), .int .i64 (0), .str 0 0, .str 0 0, .nils, .nils, .int .i64 (0), .int .i64 (0), .int .i64 (0), .str 0 0, .str 0 0, .nils, .nils, .nils, .nils]
def postT : List SV := [.nils, .int .i64 (0), .int .i64 (0)]
/-- the cells of an instruction of a kind, whose list is L -/
def icells (kd : Nat) (L : SV) : List SV := (.int .i64 (.ofNat kd) :: preT) ++ L :: postT
/-- the kind of the i-th instruction, from within -/
def kdAt (m i : Nat) : Nat := cond (Nat.beq m 0) 1 (cond (Nat.beq m 1) 19 (cond (Nat.beq (Nat.mod i 2) 0) 18 16))
def topV (G : Nat) : Nat → SV
  | 0 => .nils
  | i + 1 => .slc (Nat.add G i) 0 1 1
/-- the blocks of the first i instructions -/
def nestBs (G m : Nat) : Nat → List (Nat × Nat × List SV)
  | 0 => []
  | i + 1 => (Nat.add G i, 39, icells (kdAt m i) (topV G i)) :: nestBs G m i
/-- what comparisons and sums with unknown numbers give: 200 a depth, 201 and 202 the next ones, 204 a context, 205 and 206 an answer, 300 and 301 the law's numbers, 302 the first of them as an int -/
structure PO where
  /-- is 200 above 200? is 201? -/
  d0 : Option Bool := none
  d1 : Option Bool := none
  /-- is 204 below 0? above 4? -/
  lo : Option Bool := none
  hi : Option Bool := none
  /-- 302 modulo 10, 301 modulo 3 -/
  j : Nat := 0
  m : Nat := 0
def pdGtr (o : PO) (i k : Nat) : Option Bool := cond (Nat.beq k 200) (cond (Nat.beq i 200) o.d0 (cond (Nat.beq i 201) o.d1 none)) (cond (Nat.beq k 4) (cond (Nat.beq i 204) o.hi none) none)
def pdLss (o : PO) (i k : Nat) : Option Bool := cond (Nat.beq k 0) (cond (Nat.beq i 204) o.lo none) none
def pdEql (i j : Nat) : Option Bool := cond (Nat.beq i 205) (cond (Nat.beq j 205) (some true) none) (cond (Nat.beq i 206) (cond (Nat.beq j 206) (some true) none) none)
def pdO (o : PO) : BinOp → SV → SV → SV
  | .gtr => fun
    | .opq i => fun
      | .int .i64 (.ofNat k) => optV (pdGtr o i k)
      | _ => .bad
    | _ => fun _ => .bad
  | .lss => fun
    | .opq i => fun
      | .int .i64 (.ofNat k) => optV (pdLss o i k)
      | _ => .bad
    | _ => fun _ => .bad
  | .eql => fun
    | .opq i => fun
      | .opq j => optV (pdEql i j)
      | _ => .bad
    | _ => fun _ => .bad
  | .add => fun
    | .opq i => fun
      | .int .i64 (.ofNat k) => cond (Nat.beq k 1) (cond (Nat.beq i 200) (.opq 201) (cond (Nat.beq i 201) (.opq 202) .bad)) .bad
      | _ => .bad
    | _ => fun _ => .bad
  | .rem => fun
    | .opq i => fun
      | .int .i64 (.ofNat k) => cond (Nat.beq i 302) (cond (Nat.beq k 10) (.int .i64 (.ofNat o.j)) .bad) .bad
      | .int .u8 (.ofNat k) => cond (Nat.beq i 301) (cond (Nat.beq k 3) (.int .u8 (.ofNat o.m)) .bad) .bad
      | _ => .bad
    | _ => fun _ => .bad
  | _ => fun _ _ => .bad
def pdC : IntKind → SV → SV
  | .i64 => fun
    | .opq i => cond (Nat.beq i 300) (.opq 302) .bad
    | _ => .bad
  | _ => fun _ => .bad
def pdE (e : Nat → Bool) (o : PO) : EE := ⟨e, pdO o, fun _ _ _ => .bad, pdC⟩
end Go.Pd
