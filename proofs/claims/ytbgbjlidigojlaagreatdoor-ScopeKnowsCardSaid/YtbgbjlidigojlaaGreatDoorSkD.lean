/- Part of the proof that the law ScopeKnows answers true: how comparisons with a name and an arity end that are not known. No condition. -/
import Derived.Test.YtbgbjlidigojlaaGreatDoorSh
set_option linter.unusedSectionVars false
set_option linter.unusedSimpArgs false
set_option linter.unusedVariables false
namespace Go.Sk
open Go Go.Sh
def cat7 : List UInt8 := [99, 111, 110, 99, 97, 116, 47]
/-- is the key a literal (l, n)? nm: is the name this string? ar: is the arity this number? -/
def skKey (nm : Nat → Nat → Option Bool) (ar : Nat → Option Bool) : Nat → Nat → Option Bool
  | 0 => fun _ => none
  | 1 => fun _ => none
  | l + 2 => fun n => cond (Nat.beq (Sh.strAt n l) 47) (cond (Nat.ble 48 (Sh.strAt n (l + 1)) && Nat.ble (Sh.strAt n (l + 1)) 57)
      (match nm l (Nat.mod n (Nat.pow 2 (Nat.mul 8 l))) with | some true => ar (Nat.sub (Sh.strAt n (l + 1)) 48) | some false => some false | none => none) none) none
def catN : Nat := natOf cat7
def skSucc (ar : Nat → Option Bool) : Nat → Option Bool
  | 0 => none
  | k + 1 => cond (Nat.ble k 1000) (ar k) none
def skStr (nm : Nat → Nat → Option Bool) (ar : Nat → Option Bool) (pre : Bool) (i l n : Nat) : Option Bool :=
  cond (Nat.beq i 0) (nm l n) (cond (Nat.beq i 3) (skKey nm ar l n) (cond (Nat.beq i 5) (cond (Nat.beq l 7) (cond (Nat.beq n catN) (some pre) none) none) none))
def skInt (ar : Nat → Option Bool) (pre : Bool) (i k : Nat) : Option Bool :=
  cond (Nat.beq i 200) (ar k) (cond (Nat.beq i 201) (skSucc ar k) (cond (Nat.beq i 1004) (cond (Nat.beq k 1) (cond pre (some false) none) none) none))
def skEq (nm : Nat → Nat → Option Bool) (ar : Nat → Option Bool) (pre : Bool) : SV → SV → Option Bool
  | .opq i => fun
    | .str l n => skStr nm ar pre i l n
    | .int .i64 (.ofNat k) => skInt ar pre i k
    | _ => none
  | .str l n => fun
    | .opq i => skStr nm ar pre i l n
    | _ => none
  | .int .i64 (.ofNat k) => fun
    | .opq i => skInt ar pre i k
    | _ => none
  | _ => fun _ => none
def skO (nm : Nat → Nat → Option Bool) (ar : Nat → Option Bool) (long lng pre : Bool) : BinOp → SV → SV → SV
  | .eql => fun x y => optV (skEq nm ar pre x y)
  | .neq => fun x y => optV (notO (skEq nm ar pre x y))
  | .gtr => fun
    | .opq i => fun
      | .int .i64 (.ofNat m) => cond (Nat.beq i 1000) (cond (Nat.beq m 200) (.bool long) .bad) .bad
      | _ => .bad
    | _ => fun _ => .bad
  | .geq => fun
    | .opq i => fun
      | .int .i64 (.ofNat m) => cond (Nat.beq i 1003) (cond (Nat.beq m 7) (.bool lng) .bad) .bad
      | _ => .bad
    | _ => fun _ => .bad
  | .add => fun
    | .opq i => fun
      | .str l c => cond (Nat.beq i 0) (cond (Nat.beq l 1) (cond (Nat.beq c 47) (cond long .bad (.opq 1)) .bad) .bad) .bad
      | .opq j => cond (Nat.beq i 1) (cond (Nat.beq j 2) (cond long .bad (.opq 3)) .bad) .bad
      | .int .i64 (.ofNat m) => cond (Nat.beq i 200) (cond (Nat.beq m 1) (.opq 201) .bad) .bad
      | _ => .bad
    | _ => fun _ => .bad
  | _ => fun _ _ => .bad
def skS (lng : Bool) : SV → Nat → Option Nat → SV
  | .opq i => fun l h => cond (Nat.beq i 3) (cond lng (match h with
    | none => cond (Nat.beq l 7) (.opq 4) .bad
    | some m => cond (Nat.beq l 0) (cond (Nat.beq m 7) (.opq 5) .bad) .bad) .bad) .bad
  | _ => fun _ _ => .bad
/-- the name is the string (l, n) -/
def skNmL (l n l' n' : Nat) : Option Bool := some (eqStr l' n' l n)
/-- the name is none of a list -/
def skNmT (T : List (Nat × Nat)) (l n : Nat) : Option Bool := cond (T.any fun x => Nat.beq l x.1 && Nat.beq n x.2) (some false) none
/-- the number is k -/
def skArIs (k j : Nat) : Option Bool := some (Nat.beq j k)
/-- the number is none of a list -/
def skArNot (ex : List Nat) (j : Nat) : Option Bool := cond (ex.any (Nat.beq j)) (some false) none
def skNo1 (_ : Nat) : Option Bool := none
def skNo2 (_ _ : Nat) : Option Bool := none
end Go.Sk
