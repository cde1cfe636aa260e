/- Part of the proof that the law CheckRecursion answers true: what the evaluator is handed. No condition. -/
import Derived.Test.YtcgdnhkibjldjaaGreatDoorProg
import Derived.Test.YtcgdnhkibjldjaaGreatDoorSh
import Derived.KernelRfl
namespace Go.Proofs.YtcgdnhkibjldjaaGreatDoor
open Go Go.Sh
/-- the variables that are read: their cells -/
def crBs : List (Nat × Nat × List SV) := [(0, 237, [.str 4 1701080942, .str 4 1954047348, .str 7 32772479205076835, .str 22 41318714828563417414051896845775667275130090755682928, .str 13 8033127625987616181313345908580, .str 7 32772479204551781, .str 9 1871512873130370823265]), (3, 288, [.int .u8 (128), .int .u8 (191), .int .u8 (160), .int .u8 (191), .int .u8 (128), .int .u8 (159), .int .u8 (144), .int .u8 (191), .int .u8 (128), .int .u8 (143), .int .u8 (0), .int .u8 (0), .int .u8 (0), .int .u8 (0), .int .u8 (0), .int .u8 (0), .int .u8 (0), .int .u8 (0), .int .u8 (0), .int .u8 (0), .int .u8 (0), .int .u8 (0), .int .u8 (0), .int .u8 (0), .int .u8 (0), .int .u8 (0), .int .u8 (0), .int .u8 (0), .int .u8 (0), .int .u8 (0), .int .u8 (0), .int .u8 (0)])]
/-- the struct types that are compared -/
def crE0 (t : Nat) : Bool := (Nat.beq t 36 || (Nat.beq t 38 || (Nat.beq t 40 || (Nat.beq t 115 || Nat.beq t 133))))
def crE : EE := ⟨crE0, fun _ _ _ => .bad⟩
/-- the number that is not known, modulo 20, is k -/
def crO (k : Nat) : BinOp → SV → SV → SV
  | .rem => fun
    | .opq i => fun
      | .int .u8 (.ofNat m) => cond (Nat.beq i 200) (cond (Nat.beq m 20) (.int .u8 (.ofNat k)) .bad) .bad
      | _ => .bad
    | _ => fun _ => .bad
  | _ => fun _ _ => .bad
def crEk (k : Nat) : EE := ⟨crE0, crO k⟩
/-- the externs that are called -/
def crX (f : Nat) : Option XK := cond (Nat.beq f 256) (some .indexByteStr) (none)
def crR0 : KRow := ⟨0, [], [], .bool true, none⟩
def crR1 : KRow := ⟨0, [.agg [.int .i64 (0), .str 0 0, .str 0 0, .int .i64 (0), .int .i64 (3), .str 1 49, .int .i64 (0), .int .i64 (0), .str 0 0, .int .i64 (0), .int .i64 (0), .int .i64 (0), .str 0 0, .str 0 0, .nils, .nils]], [], .int .i64 (0), none⟩
def crR2 : KRow := ⟨0, [.agg [.int .i64 (1), .str 0 0, .str 1 103, .int .i64 (0), .int .i64 (0), .str 0 0, .int .i64 (0), .int .i64 (0), .str 0 0, .int .i64 (0), .int .i64 (0), .int .i64 (0), .str 0 0, .str 0 0, .nils, .nils]], [], .int .i64 (0), none⟩
def crR3 : KRow := ⟨0, [.agg [.int .i64 (1), .str 0 0, .str 1 120, .int .i64 (0), .int .i64 (0), .str 0 0, .int .i64 (0), .int .i64 (0), .str 0 0, .int .i64 (0), .int .i64 (0), .int .i64 (0), .str 0 0, .str 0 0, .nils, .nils]], [], .int .i64 (0), none⟩
def crR4 : KRow := ⟨0, [.agg [.int .i64 (1), .str 0 0, .str 1 97, .int .i64 (0), .int .i64 (0), .str 0 0, .int .i64 (0), .int .i64 (0), .str 0 0, .int .i64 (0), .int .i64 (0), .int .i64 (0), .str 0 0, .str 0 0, .nils, .nils]], [], .int .i64 (0), none⟩
def crR5 : KRow := ⟨0, [.agg [.int .i64 (1), .str 0 0, .str 1 98, .int .i64 (0), .int .i64 (0), .str 0 0, .int .i64 (0), .int .i64 (0), .str 0 0, .int .i64 (0), .int .i64 (0), .int .i64 (0), .str 0 0, .str 0 0, .nils, .nils]], [], .int .i64 (0), none⟩
def crR6 : KRow := ⟨0, [.agg [.int .i64 (19), .str 0 0, .str 3 6765158, .int .i64 (0), .int .i64 (0), .str 0 0, .int .i64 (0), .int .i64 (0), .str 0 0, .int .i64 (0), .int .i64 (0), .int .i64 (0), .str 0 0, .str 0 0, .nils, .nils]], [], .int .i64 (0), none⟩
def crR7 : KRow := ⟨0, [.agg [.int .i64 (19), .str 0 0, .str 4 811678310, .int .i64 (0), .int .i64 (0), .str 0 0, .int .i64 (0), .int .i64 (0), .str 0 0, .int .i64 (0), .int .i64 (0), .int .i64 (0), .str 0 0, .str 0 0, .nils, .nils]], [], .int .i64 (0), none⟩
def crR8 : KRow := ⟨0, [.agg [.int .i64 (19), .str 0 0, .str 4 828455526, .int .i64 (0), .int .i64 (0), .str 0 0, .int .i64 (0), .int .i64 (0), .str 0 0, .int .i64 (0), .int .i64 (0), .int .i64 (0), .str 0 0, .str 0 0, .nils, .nils]], [], .int .i64 (0), none⟩
def crR9 : KRow := ⟨0, [.agg [.int .i64 (19), .str 0 0, .str 4 845232742, .int .i64 (0), .int .i64 (0), .str 0 0, .int .i64 (0), .int .i64 (0), .str 0 0, .int .i64 (0), .int .i64 (0), .int .i64 (0), .str 0 0, .str 0 0, .nils, .nils]], [], .int .i64 (0), none⟩
def crR10 : KRow := ⟨0, [.agg [.int .i64 (19), .str 0 0, .str 4 862009958, .int .i64 (0), .int .i64 (0), .str 0 0, .int .i64 (0), .int .i64 (0), .str 0 0, .int .i64 (0), .int .i64 (0), .int .i64 (0), .str 0 0, .str 0 0, .nils, .nils]], [], .int .i64 (0), none⟩
def crR11 : KRow := ⟨0, [.agg [.int .i64 (19), .str 0 0, .str 4 878787174, .int .i64 (0), .int .i64 (0), .str 0 0, .int .i64 (0), .int .i64 (0), .str 0 0, .int .i64 (0), .int .i64 (0), .int .i64 (0), .str 0 0, .str 0 0, .nils, .nils]], [], .int .i64 (0), none⟩
def crR12 : KRow := ⟨0, [.agg [.int .i64 (19), .str 0 0, .str 4 895564390, .int .i64 (0), .int .i64 (0), .str 0 0, .int .i64 (0), .int .i64 (0), .str 0 0, .int .i64 (0), .int .i64 (0), .int .i64 (0), .str 0 0, .str 0 0, .nils, .nils]], [], .int .i64 (0), none⟩
def crR13 : KRow := ⟨0, [.agg [.int .i64 (19), .str 0 0, .str 4 912341606, .int .i64 (0), .int .i64 (0), .str 0 0, .int .i64 (0), .int .i64 (0), .str 0 0, .int .i64 (0), .int .i64 (0), .int .i64 (0), .str 0 0, .str 0 0, .nils, .nils]], [], .int .i64 (0), none⟩
def crR14 : KRow := ⟨0, [.agg [.int .i64 (19), .str 0 0, .str 4 929118822, .int .i64 (0), .int .i64 (0), .str 0 0, .int .i64 (0), .int .i64 (0), .str 0 0, .int .i64 (0), .int .i64 (0), .int .i64 (0), .str 0 0, .str 0 0, .nils, .nils]], [], .int .i64 (0), none⟩
def crR15 : KRow := ⟨0, [.agg [.int .i64 (19), .str 0 0, .str 4 945896038, .int .i64 (0), .int .i64 (0), .str 0 0, .int .i64 (0), .int .i64 (0), .str 0 0, .int .i64 (0), .int .i64 (0), .int .i64 (0), .str 0 0, .str 0 0, .nils, .nils]], [], .int .i64 (0), none⟩
def crR16 : KRow := ⟨0, [.agg [.int .i64 (19), .str 0 0, .str 4 962673254, .int .i64 (0), .int .i64 (0), .str 0 0, .int .i64 (0), .int .i64 (0), .str 0 0, .int .i64 (0), .int .i64 (0), .int .i64 (0), .str 0 0, .str 0 0, .nils, .nils]], [], .int .i64 (0), none⟩
def crR17 : KRow := ⟨0, [.agg [.int .i64 (19), .str 0 0, .str 5 206986885734, .int .i64 (0), .int .i64 (0), .str 0 0, .int .i64 (0), .int .i64 (0), .str 0 0, .int .i64 (0), .int .i64 (0), .int .i64 (0), .str 0 0, .str 0 0, .nils, .nils]], [], .int .i64 (0), none⟩
def crR18 : KRow := ⟨0, [.agg [.int .i64 (19), .str 0 0, .str 5 211281853030, .int .i64 (0), .int .i64 (0), .str 0 0, .int .i64 (0), .int .i64 (0), .str 0 0, .int .i64 (0), .int .i64 (0), .int .i64 (0), .str 0 0, .str 0 0, .nils, .nils]], [], .int .i64 (0), none⟩
def crR19 : KRow := ⟨0, [.agg [.int .i64 (19), .str 0 0, .str 5 215576820326, .int .i64 (0), .int .i64 (0), .str 0 0, .int .i64 (0), .int .i64 (0), .str 0 0, .int .i64 (0), .int .i64 (0), .int .i64 (0), .str 0 0, .str 0 0, .nils, .nils]], [], .int .i64 (0), none⟩
def crR20 : KRow := ⟨0, [.agg [.int .i64 (19), .str 0 0, .str 5 219871787622, .int .i64 (0), .int .i64 (0), .str 0 0, .int .i64 (0), .int .i64 (0), .str 0 0, .int .i64 (0), .int .i64 (0), .int .i64 (0), .str 0 0, .str 0 0, .nils, .nils]], [], .int .i64 (0), none⟩
def crR21 : KRow := ⟨0, [.agg [.int .i64 (19), .str 0 0, .str 5 224166754918, .int .i64 (0), .int .i64 (0), .str 0 0, .int .i64 (0), .int .i64 (0), .str 0 0, .int .i64 (0), .int .i64 (0), .int .i64 (0), .str 0 0, .str 0 0, .nils, .nils]], [], .int .i64 (0), none⟩
def crR22 : KRow := ⟨0, [.agg [.int .i64 (19), .str 0 0, .str 5 228461722214, .int .i64 (0), .int .i64 (0), .str 0 0, .int .i64 (0), .int .i64 (0), .str 0 0, .int .i64 (0), .int .i64 (0), .int .i64 (0), .str 0 0, .str 0 0, .nils, .nils]], [], .int .i64 (0), none⟩
def crR23 : KRow := ⟨0, [.agg [.int .i64 (19), .str 0 0, .str 5 232756689510, .int .i64 (0), .int .i64 (0), .str 0 0, .int .i64 (0), .int .i64 (0), .str 0 0, .int .i64 (0), .int .i64 (0), .int .i64 (0), .str 0 0, .str 0 0, .nils, .nils]], [], .int .i64 (0), none⟩
def crR24 : KRow := ⟨0, [.agg [.int .i64 (19), .str 0 0, .str 5 237051656806, .int .i64 (0), .int .i64 (0), .str 0 0, .int .i64 (0), .int .i64 (0), .str 0 0, .int .i64 (0), .int .i64 (0), .int .i64 (0), .str 0 0, .str 0 0, .nils, .nils]], [], .int .i64 (0), none⟩
def crR25 : KRow := ⟨0, [.agg [.int .i64 (19), .str 0 0, .str 5 241346624102, .int .i64 (0), .int .i64 (0), .str 0 0, .int .i64 (0), .int .i64 (0), .str 0 0, .int .i64 (0), .int .i64 (0), .int .i64 (0), .str 0 0, .str 0 0, .nils, .nils]], [], .int .i64 (0), none⟩
def crR26 : KRow := ⟨0, [.agg [.int .i64 (19), .str 0 0, .str 5 245641591398, .int .i64 (0), .int .i64 (0), .str 0 0, .int .i64 (0), .int .i64 (0), .str 0 0, .int .i64 (0), .int .i64 (0), .int .i64 (0), .str 0 0, .str 0 0, .nils, .nils]], [], .int .i64 (0), none⟩
def crR27 : KRow := ⟨0, [.agg [.int .i64 (19), .str 0 0, .str 4 811678310, .int .i64 (0), .int .i64 (0), .str 0 0, .int .i64 (0), .int .i64 (0), .str 0 0, .int .i64 (0), .int .i64 (0), .int .i64 (0), .str 0 0, .str 0 0, .nils, .nils]], [], .nils, none⟩
def crR28 : KRow := ⟨0, [.agg [.int .i64 (19), .str 0 0, .str 4 828455526, .int .i64 (0), .int .i64 (0), .str 0 0, .int .i64 (0), .int .i64 (0), .str 0 0, .int .i64 (0), .int .i64 (0), .int .i64 (0), .str 0 0, .str 0 0, .nils, .nils]], [], .nils, none⟩
def crR29 : KRow := ⟨0, [.agg [.int .i64 (19), .str 0 0, .str 4 845232742, .int .i64 (0), .int .i64 (0), .str 0 0, .int .i64 (0), .int .i64 (0), .str 0 0, .int .i64 (0), .int .i64 (0), .int .i64 (0), .str 0 0, .str 0 0, .nils, .nils]], [], .nils, none⟩
def crR30 : KRow := ⟨0, [.agg [.int .i64 (19), .str 0 0, .str 4 862009958, .int .i64 (0), .int .i64 (0), .str 0 0, .int .i64 (0), .int .i64 (0), .str 0 0, .int .i64 (0), .int .i64 (0), .int .i64 (0), .str 0 0, .str 0 0, .nils, .nils]], [], .nils, none⟩
def crR31 : KRow := ⟨0, [.agg [.int .i64 (19), .str 0 0, .str 4 878787174, .int .i64 (0), .int .i64 (0), .str 0 0, .int .i64 (0), .int .i64 (0), .str 0 0, .int .i64 (0), .int .i64 (0), .int .i64 (0), .str 0 0, .str 0 0, .nils, .nils]], [], .nils, none⟩
def crR32 : KRow := ⟨0, [.agg [.int .i64 (19), .str 0 0, .str 4 895564390, .int .i64 (0), .int .i64 (0), .str 0 0, .int .i64 (0), .int .i64 (0), .str 0 0, .int .i64 (0), .int .i64 (0), .int .i64 (0), .str 0 0, .str 0 0, .nils, .nils]], [], .nils, none⟩
def crR33 : KRow := ⟨0, [.agg [.int .i64 (19), .str 0 0, .str 4 912341606, .int .i64 (0), .int .i64 (0), .str 0 0, .int .i64 (0), .int .i64 (0), .str 0 0, .int .i64 (0), .int .i64 (0), .int .i64 (0), .str 0 0, .str 0 0, .nils, .nils]], [], .nils, none⟩
def crR34 : KRow := ⟨0, [.agg [.int .i64 (19), .str 0 0, .str 4 929118822, .int .i64 (0), .int .i64 (0), .str 0 0, .int .i64 (0), .int .i64 (0), .str 0 0, .int .i64 (0), .int .i64 (0), .int .i64 (0), .str 0 0, .str 0 0, .nils, .nils]], [], .nils, none⟩
def crR35 : KRow := ⟨0, [.agg [.int .i64 (19), .str 0 0, .str 4 945896038, .int .i64 (0), .int .i64 (0), .str 0 0, .int .i64 (0), .int .i64 (0), .str 0 0, .int .i64 (0), .int .i64 (0), .int .i64 (0), .str 0 0, .str 0 0, .nils, .nils]], [], .nils, none⟩
def crR36 : KRow := ⟨0, [.agg [.int .i64 (19), .str 0 0, .str 4 962673254, .int .i64 (0), .int .i64 (0), .str 0 0, .int .i64 (0), .int .i64 (0), .str 0 0, .int .i64 (0), .int .i64 (0), .int .i64 (0), .str 0 0, .str 0 0, .nils, .nils]], [], .nils, none⟩
def crR37 : KRow := ⟨0, [.agg [.int .i64 (19), .str 0 0, .str 5 206986885734, .int .i64 (0), .int .i64 (0), .str 0 0, .int .i64 (0), .int .i64 (0), .str 0 0, .int .i64 (0), .int .i64 (0), .int .i64 (0), .str 0 0, .str 0 0, .nils, .nils]], [], .nils, none⟩
def crR38 : KRow := ⟨0, [.agg [.int .i64 (19), .str 0 0, .str 5 211281853030, .int .i64 (0), .int .i64 (0), .str 0 0, .int .i64 (0), .int .i64 (0), .str 0 0, .int .i64 (0), .int .i64 (0), .int .i64 (0), .str 0 0, .str 0 0, .nils, .nils]], [], .nils, none⟩
def crR39 : KRow := ⟨0, [.agg [.int .i64 (19), .str 0 0, .str 5 215576820326, .int .i64 (0), .int .i64 (0), .str 0 0, .int .i64 (0), .int .i64 (0), .str 0 0, .int .i64 (0), .int .i64 (0), .int .i64 (0), .str 0 0, .str 0 0, .nils, .nils]], [], .nils, none⟩
def crR40 : KRow := ⟨0, [.agg [.int .i64 (19), .str 0 0, .str 5 219871787622, .int .i64 (0), .int .i64 (0), .str 0 0, .int .i64 (0), .int .i64 (0), .str 0 0, .int .i64 (0), .int .i64 (0), .int .i64 (0), .str 0 0, .str 0 0, .nils, .nils]], [], .nils, none⟩
def crR41 : KRow := ⟨0, [.agg [.int .i64 (19), .str 0 0, .str 5 224166754918, .int .i64 (0), .int .i64 (0), .str 0 0, .int .i64 (0), .int .i64 (0), .str 0 0, .int .i64 (0), .int .i64 (0), .int .i64 (0), .str 0 0, .str 0 0, .nils, .nils]], [], .nils, none⟩
def crR42 : KRow := ⟨0, [.agg [.int .i64 (19), .str 0 0, .str 5 228461722214, .int .i64 (0), .int .i64 (0), .str 0 0, .int .i64 (0), .int .i64 (0), .str 0 0, .int .i64 (0), .int .i64 (0), .int .i64 (0), .str 0 0, .str 0 0, .nils, .nils]], [], .nils, none⟩
def crR43 : KRow := ⟨0, [.agg [.int .i64 (19), .str 0 0, .str 5 232756689510, .int .i64 (0), .int .i64 (0), .str 0 0, .int .i64 (0), .int .i64 (0), .str 0 0, .int .i64 (0), .int .i64 (0), .int .i64 (0), .str 0 0, .str 0 0, .nils, .nils]], [], .nils, none⟩
def crR44 : KRow := ⟨0, [.agg [.int .i64 (19), .str 0 0, .str 5 237051656806, .int .i64 (0), .int .i64 (0), .str 0 0, .int .i64 (0), .int .i64 (0), .str 0 0, .int .i64 (0), .int .i64 (0), .int .i64 (0), .str 0 0, .str 0 0, .nils, .nils]], [], .nils, none⟩
def crR45 : KRow := ⟨0, [.agg [.int .i64 (19), .str 0 0, .str 5 241346624102, .int .i64 (0), .int .i64 (0), .str 0 0, .int .i64 (0), .int .i64 (0), .str 0 0, .int .i64 (0), .int .i64 (0), .int .i64 (0), .str 0 0, .str 0 0, .nils, .nils]], [], .nils, none⟩
def crR46 : KRow := ⟨0, [.agg [.int .i64 (19), .str 0 0, .str 5 245641591398, .int .i64 (0), .int .i64 (0), .str 0 0, .int .i64 (0), .int .i64 (0), .str 0 0, .int .i64 (0), .int .i64 (0), .int .i64 (0), .str 0 0, .str 0 0, .nils, .nils]], [], .nils, none⟩
def crR47 : KRow := ⟨0, [.int .i64 (0)], [], .str 1 48, none⟩
def crR48 : KRow := ⟨0, [.int .i64 (1)], [], .str 1 49, none⟩
def crR49 : KRow := ⟨0, [.int .i64 (10)], [], .str 2 12337, none⟩
def crR50 : KRow := ⟨0, [.int .i64 (11)], [], .str 2 12593, none⟩
def crR51 : KRow := ⟨0, [.int .i64 (12)], [], .str 2 12849, none⟩
def crR52 : KRow := ⟨0, [.int .i64 (13)], [], .str 2 13105, none⟩
def crR53 : KRow := ⟨0, [.int .i64 (14)], [], .str 2 13361, none⟩
def crR54 : KRow := ⟨0, [.int .i64 (15)], [], .str 2 13617, none⟩
def crR55 : KRow := ⟨0, [.int .i64 (16)], [], .str 2 13873, none⟩
def crR56 : KRow := ⟨0, [.int .i64 (17)], [], .str 2 14129, none⟩
def crR57 : KRow := ⟨0, [.int .i64 (18)], [], .str 2 14385, none⟩
def crR58 : KRow := ⟨0, [.int .i64 (19)], [], .str 2 14641, none⟩
def crR59 : KRow := ⟨0, [.int .i64 (2)], [], .str 1 50, none⟩
def crR60 : KRow := ⟨0, [.int .i64 (3)], [], .str 1 51, none⟩
def crR61 : KRow := ⟨0, [.int .i64 (4)], [], .str 1 52, none⟩
def crR62 : KRow := ⟨0, [.int .i64 (5)], [], .str 1 53, none⟩
def crR63 : KRow := ⟨0, [.int .i64 (6)], [], .str 1 54, none⟩
def crR64 : KRow := ⟨0, [.int .i64 (7)], [], .str 1 55, none⟩
def crR65 : KRow := ⟨0, [.int .i64 (8)], [], .str 1 56, none⟩
def crR66 : KRow := ⟨0, [.int .i64 (9)], [], .str 1 57, none⟩
def crR67 : KRow := ⟨0, [.str 4 811678310, .int .i64 (0)], [], .bool false, none⟩
def crR68 : KRow := ⟨0, [.str 4 828455526, .int .i64 (0)], [], .bool false, none⟩
def crR69 : KRow := ⟨0, [.str 4 845232742, .int .i64 (0)], [], .bool false, none⟩
def crR70 : KRow := ⟨0, [.str 4 862009958, .int .i64 (0)], [], .bool false, none⟩
def crR71 : KRow := ⟨0, [.str 4 878787174, .int .i64 (0)], [], .bool false, none⟩
def crR72 : KRow := ⟨0, [.str 4 895564390, .int .i64 (0)], [], .bool false, none⟩
def crR73 : KRow := ⟨0, [.str 4 912341606, .int .i64 (0)], [], .bool false, none⟩
def crR74 : KRow := ⟨0, [.str 4 929118822, .int .i64 (0)], [], .bool false, none⟩
def crR75 : KRow := ⟨0, [.str 4 945896038, .int .i64 (0)], [], .bool false, none⟩
def crR76 : KRow := ⟨0, [.str 4 962673254, .int .i64 (0)], [], .bool false, none⟩
def crR77 : KRow := ⟨0, [.str 5 206986885734, .int .i64 (0)], [], .bool false, none⟩
def crR78 : KRow := ⟨0, [.str 5 211281853030, .int .i64 (0)], [], .bool false, none⟩
def crR79 : KRow := ⟨0, [.str 5 215576820326, .int .i64 (0)], [], .bool false, none⟩
def crR80 : KRow := ⟨0, [.str 5 219871787622, .int .i64 (0)], [], .bool false, none⟩
def crR81 : KRow := ⟨0, [.str 5 224166754918, .int .i64 (0)], [], .bool false, none⟩
def crR82 : KRow := ⟨0, [.str 5 228461722214, .int .i64 (0)], [], .bool false, none⟩
def crR83 : KRow := ⟨0, [.str 5 232756689510, .int .i64 (0)], [], .bool false, none⟩
def crR84 : KRow := ⟨0, [.str 5 237051656806, .int .i64 (0)], [], .bool false, none⟩
def crR85 : KRow := ⟨0, [.str 5 241346624102, .int .i64 (0)], [], .bool false, none⟩
def crR86 : KRow := ⟨0, [.str 5 245641591398, .int .i64 (0)], [], .bool false, none⟩
/-- the externs, and the calls that are known -/
def crY (f : Nat) : Option XK := cond (Nat.beq f 4) (some (.known [crR47, crR48, crR49, crR50, crR51, crR52, crR53, crR54, crR55, crR56, crR57, crR58, crR59, crR60, crR61, crR62, crR63, crR64, crR65, crR66])) (cond (Nat.beq f 10) (some (.known [crR0])) (cond (Nat.beq f 37) (some (.known [crR67, crR68, crR69, crR70, crR71, crR72, crR73, crR74, crR75, crR76, crR77, crR78, crR79, crR80, crR81, crR82, crR83, crR84, crR85, crR86])) (cond (Nat.beq f 60) (some (.known [crR27, crR28, crR29, crR30, crR31, crR32, crR33, crR34, crR35, crR36, crR37, crR38, crR39, crR40, crR41, crR42, crR43, crR44, crR45, crR46])) (cond (Nat.beq f 74) (some (.known [crR1, crR2, crR3, crR4, crR5, crR6, crR7, crR8, crR9, crR10, crR11, crR12, crR13, crR14, crR15, crR16, crR17, crR18, crR19, crR20, crR21, crR22, crR23, crR24, crR25, crR26])) (crX f)))))
/-- a heap of blocks that are only read -/
noncomputable def crHp (K : Hp) : List (Nat × Nat × List SV) → Hp
  | [] => K
  | x :: bs => (crHp K bs).set x.1 (.ro x.2.1 x.2.2)
end Go.Proofs.YtcgdnhkibjldjaaGreatDoor
