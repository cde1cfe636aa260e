/- Part of the proof that the law CheckRecursion answers true: calls within the longest evaluations. No condition. -/
import Derived.Test.YtcgdnhkibjldjaaGreatDoorCheckRecursionD
namespace Go.Proofs.YtcgdnhkibjldjaaGreatDoor
open Go Go.Sh
def crH18b0 : List (Nat × Nat × List SV) := [(171, 9, [.str 1 103, .str 1 104]), (248, 115, [.str 4 811678310, .int .i64 (0), .str 4 828455526, .int .i64 (0), .str 4 845232742, .int .i64 (0), .str 4 862009958, .int .i64 (0), .str 4 878787174, .int .i64 (0), .str 4 895564390, .int .i64 (0), .str 4 912341606, .int .i64 (0), .str 4 929118822, .int .i64 (0), .str 4 945896038, .int .i64 (0), .str 4 962673254, .int .i64 (0), .str 5 206986885734, .int .i64 (0), .str 5 211281853030, .int .i64 (0), .str 5 215576820326, .int .i64 (0), .str 5 219871787622, .int .i64 (0), .str 5 224166754918, .int .i64 (0), .str 5 228461722214, .int .i64 (0), .str 5 232756689510, .int .i64 (0), .str 5 237051656806, .int .i64 (0), .str 5 241346624102, .int .i64 (0)])]
def crH18b1 : List (Nat × Nat × List SV) := [(294, 49, [.nils, .nils])]
def crH18b2 : List (Nat × Nat × List SV) := [(165, 9, [.str 2 12404, .str 2 12660, .str 2 12916, .str 2 13172, .str 2 13428, .str 2 13684, .str 2 13940, .str 2 14196, .str 2 14452, .str 2 14708, .str 3 3158388, .str 3 3223924, .str 3 3289460, .str 3 3354996, .str 3 3420532, .str 3 3486068, .str 3 3551604, .str 3 3617140, .str 3 3682676])]
def crH18b3 : List (Nat × Nat × List SV) := [(298, 49, [.nils, .nils])]
def crH18b4 : List (Nat × Nat × List SV) := [(294, 9, [.str 1 103, .str 1 104]), (248, 115, [.str 4 811678310, .int .i64 (0), .str 4 828455526, .int .i64 (0), .str 4 845232742, .int .i64 (0), .str 4 862009958, .int .i64 (0), .str 4 878787174, .int .i64 (0), .str 4 895564390, .int .i64 (0), .str 4 912341606, .int .i64 (0), .str 4 929118822, .int .i64 (0), .str 4 945896038, .int .i64 (0), .str 4 962673254, .int .i64 (0), .str 5 206986885734, .int .i64 (0), .str 5 211281853030, .int .i64 (0), .str 5 215576820326, .int .i64 (0), .str 5 219871787622, .int .i64 (0), .str 5 224166754918, .int .i64 (0), .str 5 228461722214, .int .i64 (0), .str 5 232756689510, .int .i64 (0), .str 5 237051656806, .int .i64 (0), .str 5 241346624102, .int .i64 (0)])]
def crH18b5 : List (Nat × Nat × List SV) := [(295, 9, [.str 1 103, .str 1 104]), (248, 115, [.str 4 811678310, .int .i64 (0), .str 4 828455526, .int .i64 (0), .str 4 845232742, .int .i64 (0), .str 4 862009958, .int .i64 (0), .str 4 878787174, .int .i64 (0), .str 4 895564390, .int .i64 (0), .str 4 912341606, .int .i64 (0), .str 4 929118822, .int .i64 (0), .str 4 945896038, .int .i64 (0), .str 4 962673254, .int .i64 (0), .str 5 206986885734, .int .i64 (0), .str 5 211281853030, .int .i64 (0), .str 5 215576820326, .int .i64 (0), .str 5 219871787622, .int .i64 (0), .str 5 224166754918, .int .i64 (0), .str 5 228461722214, .int .i64 (0), .str 5 232756689510, .int .i64 (0), .str 5 237051656806, .int .i64 (0), .str 5 241346624102, .int .i64 (0)])]
def crH18b6 : List (Nat × Nat × List SV) := [(296, 9, [.str 1 103, .str 1 104]), (248, 115, [.str 4 811678310, .int .i64 (0), .str 4 828455526, .int .i64 (0), .str 4 845232742, .int .i64 (0), .str 4 862009958, .int .i64 (0), .str 4 878787174, .int .i64 (0), .str 4 895564390, .int .i64 (0), .str 4 912341606, .int .i64 (0), .str 4 929118822, .int .i64 (0), .str 4 945896038, .int .i64 (0), .str 4 962673254, .int .i64 (0), .str 5 206986885734, .int .i64 (0), .str 5 211281853030, .int .i64 (0), .str 5 215576820326, .int .i64 (0), .str 5 219871787622, .int .i64 (0), .str 5 224166754918, .int .i64 (0), .str 5 228461722214, .int .i64 (0), .str 5 232756689510, .int .i64 (0), .str 5 237051656806, .int .i64 (0), .str 5 241346624102, .int .i64 (0)])]
def crH18b7 : List (Nat × Nat × List SV) := [(297, 9, [.str 1 103, .str 1 104]), (248, 115, [.str 4 811678310, .int .i64 (0), .str 4 828455526, .int .i64 (0), .str 4 845232742, .int .i64 (0), .str 4 862009958, .int .i64 (0), .str 4 878787174, .int .i64 (0), .str 4 895564390, .int .i64 (0), .str 4 912341606, .int .i64 (0), .str 4 929118822, .int .i64 (0), .str 4 945896038, .int .i64 (0), .str 4 962673254, .int .i64 (0), .str 5 206986885734, .int .i64 (0), .str 5 211281853030, .int .i64 (0), .str 5 215576820326, .int .i64 (0), .str 5 219871787622, .int .i64 (0), .str 5 224166754918, .int .i64 (0), .str 5 228461722214, .int .i64 (0), .str 5 232756689510, .int .i64 (0), .str 5 237051656806, .int .i64 (0), .str 5 241346624102, .int .i64 (0)])]
def crH18b8 : List (Nat × Nat × List SV) := [(298, 9, [.str 1 103, .str 1 104]), (248, 115, [.str 4 811678310, .int .i64 (0), .str 4 828455526, .int .i64 (0), .str 4 845232742, .int .i64 (0), .str 4 862009958, .int .i64 (0), .str 4 878787174, .int .i64 (0), .str 4 895564390, .int .i64 (0), .str 4 912341606, .int .i64 (0), .str 4 929118822, .int .i64 (0), .str 4 945896038, .int .i64 (0), .str 4 962673254, .int .i64 (0), .str 5 206986885734, .int .i64 (0), .str 5 211281853030, .int .i64 (0), .str 5 215576820326, .int .i64 (0), .str 5 219871787622, .int .i64 (0), .str 5 224166754918, .int .i64 (0), .str 5 228461722214, .int .i64 (0), .str 5 232756689510, .int .i64 (0), .str 5 237051656806, .int .i64 (0), .str 5 241346624102, .int .i64 (0)])]
def crH18b9 : List (Nat × Nat × List SV) := [(299, 9, [.str 1 103, .str 1 104]), (248, 115, [.str 4 811678310, .int .i64 (0), .str 4 828455526, .int .i64 (0), .str 4 845232742, .int .i64 (0), .str 4 862009958, .int .i64 (0), .str 4 878787174, .int .i64 (0), .str 4 895564390, .int .i64 (0), .str 4 912341606, .int .i64 (0), .str 4 929118822, .int .i64 (0), .str 4 945896038, .int .i64 (0), .str 4 962673254, .int .i64 (0), .str 5 206986885734, .int .i64 (0), .str 5 211281853030, .int .i64 (0), .str 5 215576820326, .int .i64 (0), .str 5 219871787622, .int .i64 (0), .str 5 224166754918, .int .i64 (0), .str 5 228461722214, .int .i64 (0), .str 5 232756689510, .int .i64 (0), .str 5 237051656806, .int .i64 (0), .str 5 241346624102, .int .i64 (0)])]
def crH18b10 : List (Nat × Nat × List SV) := [(300, 9, [.str 1 103, .str 1 104]), (248, 115, [.str 4 811678310, .int .i64 (0), .str 4 828455526, .int .i64 (0), .str 4 845232742, .int .i64 (0), .str 4 862009958, .int .i64 (0), .str 4 878787174, .int .i64 (0), .str 4 895564390, .int .i64 (0), .str 4 912341606, .int .i64 (0), .str 4 929118822, .int .i64 (0), .str 4 945896038, .int .i64 (0), .str 4 962673254, .int .i64 (0), .str 5 206986885734, .int .i64 (0), .str 5 211281853030, .int .i64 (0), .str 5 215576820326, .int .i64 (0), .str 5 219871787622, .int .i64 (0), .str 5 224166754918, .int .i64 (0), .str 5 228461722214, .int .i64 (0), .str 5 232756689510, .int .i64 (0), .str 5 237051656806, .int .i64 (0), .str 5 241346624102, .int .i64 (0)])]
def crH18b11 : List (Nat × Nat × List SV) := [(301, 9, [.str 1 103, .str 1 104]), (248, 115, [.str 4 811678310, .int .i64 (0), .str 4 828455526, .int .i64 (0), .str 4 845232742, .int .i64 (0), .str 4 862009958, .int .i64 (0), .str 4 878787174, .int .i64 (0), .str 4 895564390, .int .i64 (0), .str 4 912341606, .int .i64 (0), .str 4 929118822, .int .i64 (0), .str 4 945896038, .int .i64 (0), .str 4 962673254, .int .i64 (0), .str 5 206986885734, .int .i64 (0), .str 5 211281853030, .int .i64 (0), .str 5 215576820326, .int .i64 (0), .str 5 219871787622, .int .i64 (0), .str 5 224166754918, .int .i64 (0), .str 5 228461722214, .int .i64 (0), .str 5 232756689510, .int .i64 (0), .str 5 237051656806, .int .i64 (0), .str 5 241346624102, .int .i64 (0)])]
def crH18b12 : List (Nat × Nat × List SV) := [(302, 9, [.str 1 103, .str 1 104]), (248, 115, [.str 4 811678310, .int .i64 (0), .str 4 828455526, .int .i64 (0), .str 4 845232742, .int .i64 (0), .str 4 862009958, .int .i64 (0), .str 4 878787174, .int .i64 (0), .str 4 895564390, .int .i64 (0), .str 4 912341606, .int .i64 (0), .str 4 929118822, .int .i64 (0), .str 4 945896038, .int .i64 (0), .str 4 962673254, .int .i64 (0), .str 5 206986885734, .int .i64 (0), .str 5 211281853030, .int .i64 (0), .str 5 215576820326, .int .i64 (0), .str 5 219871787622, .int .i64 (0), .str 5 224166754918, .int .i64 (0), .str 5 228461722214, .int .i64 (0), .str 5 232756689510, .int .i64 (0), .str 5 237051656806, .int .i64 (0), .str 5 241346624102, .int .i64 (0)])]
def crH18b13 : List (Nat × Nat × List SV) := [(303, 9, [.str 1 103, .str 1 104]), (248, 115, [.str 4 811678310, .int .i64 (0), .str 4 828455526, .int .i64 (0), .str 4 845232742, .int .i64 (0), .str 4 862009958, .int .i64 (0), .str 4 878787174, .int .i64 (0), .str 4 895564390, .int .i64 (0), .str 4 912341606, .int .i64 (0), .str 4 929118822, .int .i64 (0), .str 4 945896038, .int .i64 (0), .str 4 962673254, .int .i64 (0), .str 5 206986885734, .int .i64 (0), .str 5 211281853030, .int .i64 (0), .str 5 215576820326, .int .i64 (0), .str 5 219871787622, .int .i64 (0), .str 5 224166754918, .int .i64 (0), .str 5 228461722214, .int .i64 (0), .str 5 232756689510, .int .i64 (0), .str 5 237051656806, .int .i64 (0), .str 5 241346624102, .int .i64 (0)])]
def crH18b14 : List (Nat × Nat × List SV) := [(304, 9, [.str 1 103, .str 1 104]), (248, 115, [.str 4 811678310, .int .i64 (0), .str 4 828455526, .int .i64 (0), .str 4 845232742, .int .i64 (0), .str 4 862009958, .int .i64 (0), .str 4 878787174, .int .i64 (0), .str 4 895564390, .int .i64 (0), .str 4 912341606, .int .i64 (0), .str 4 929118822, .int .i64 (0), .str 4 945896038, .int .i64 (0), .str 4 962673254, .int .i64 (0), .str 5 206986885734, .int .i64 (0), .str 5 211281853030, .int .i64 (0), .str 5 215576820326, .int .i64 (0), .str 5 219871787622, .int .i64 (0), .str 5 224166754918, .int .i64 (0), .str 5 228461722214, .int .i64 (0), .str 5 232756689510, .int .i64 (0), .str 5 237051656806, .int .i64 (0), .str 5 241346624102, .int .i64 (0)])]
def crH18b15 : List (Nat × Nat × List SV) := [(305, 9, [.str 1 103, .str 1 104]), (248, 115, [.str 4 811678310, .int .i64 (0), .str 4 828455526, .int .i64 (0), .str 4 845232742, .int .i64 (0), .str 4 862009958, .int .i64 (0), .str 4 878787174, .int .i64 (0), .str 4 895564390, .int .i64 (0), .str 4 912341606, .int .i64 (0), .str 4 929118822, .int .i64 (0), .str 4 945896038, .int .i64 (0), .str 4 962673254, .int .i64 (0), .str 5 206986885734, .int .i64 (0), .str 5 211281853030, .int .i64 (0), .str 5 215576820326, .int .i64 (0), .str 5 219871787622, .int .i64 (0), .str 5 224166754918, .int .i64 (0), .str 5 228461722214, .int .i64 (0), .str 5 232756689510, .int .i64 (0), .str 5 237051656806, .int .i64 (0), .str 5 241346624102, .int .i64 (0)])]
def crH18b16 : List (Nat × Nat × List SV) := [(306, 9, [.str 1 103, .str 1 104]), (248, 115, [.str 4 811678310, .int .i64 (0), .str 4 828455526, .int .i64 (0), .str 4 845232742, .int .i64 (0), .str 4 862009958, .int .i64 (0), .str 4 878787174, .int .i64 (0), .str 4 895564390, .int .i64 (0), .str 4 912341606, .int .i64 (0), .str 4 929118822, .int .i64 (0), .str 4 945896038, .int .i64 (0), .str 4 962673254, .int .i64 (0), .str 5 206986885734, .int .i64 (0), .str 5 211281853030, .int .i64 (0), .str 5 215576820326, .int .i64 (0), .str 5 219871787622, .int .i64 (0), .str 5 224166754918, .int .i64 (0), .str 5 228461722214, .int .i64 (0), .str 5 232756689510, .int .i64 (0), .str 5 237051656806, .int .i64 (0), .str 5 241346624102, .int .i64 (0)])]
def crH18b17 : List (Nat × Nat × List SV) := [(307, 9, [.str 1 103, .str 1 104]), (248, 115, [.str 4 811678310, .int .i64 (0), .str 4 828455526, .int .i64 (0), .str 4 845232742, .int .i64 (0), .str 4 862009958, .int .i64 (0), .str 4 878787174, .int .i64 (0), .str 4 895564390, .int .i64 (0), .str 4 912341606, .int .i64 (0), .str 4 929118822, .int .i64 (0), .str 4 945896038, .int .i64 (0), .str 4 962673254, .int .i64 (0), .str 5 206986885734, .int .i64 (0), .str 5 211281853030, .int .i64 (0), .str 5 215576820326, .int .i64 (0), .str 5 219871787622, .int .i64 (0), .str 5 224166754918, .int .i64 (0), .str 5 228461722214, .int .i64 (0), .str 5 232756689510, .int .i64 (0), .str 5 237051656806, .int .i64 (0), .str 5 241346624102, .int .i64 (0)])]
def crH18b18 : List (Nat × Nat × List SV) := [(308, 9, [.str 1 103, .str 1 104]), (248, 115, [.str 4 811678310, .int .i64 (0), .str 4 828455526, .int .i64 (0), .str 4 845232742, .int .i64 (0), .str 4 862009958, .int .i64 (0), .str 4 878787174, .int .i64 (0), .str 4 895564390, .int .i64 (0), .str 4 912341606, .int .i64 (0), .str 4 929118822, .int .i64 (0), .str 4 945896038, .int .i64 (0), .str 4 962673254, .int .i64 (0), .str 5 206986885734, .int .i64 (0), .str 5 211281853030, .int .i64 (0), .str 5 215576820326, .int .i64 (0), .str 5 219871787622, .int .i64 (0), .str 5 224166754918, .int .i64 (0), .str 5 228461722214, .int .i64 (0), .str 5 232756689510, .int .i64 (0), .str 5 237051656806, .int .i64 (0), .str 5 241346624102, .int .i64 (0)])]
def crH18b19 : List (Nat × Nat × List SV) := [(309, 9, [.str 1 103, .str 1 104]), (248, 115, [.str 4 811678310, .int .i64 (0), .str 4 828455526, .int .i64 (0), .str 4 845232742, .int .i64 (0), .str 4 862009958, .int .i64 (0), .str 4 878787174, .int .i64 (0), .str 4 895564390, .int .i64 (0), .str 4 912341606, .int .i64 (0), .str 4 929118822, .int .i64 (0), .str 4 945896038, .int .i64 (0), .str 4 962673254, .int .i64 (0), .str 5 206986885734, .int .i64 (0), .str 5 211281853030, .int .i64 (0), .str 5 215576820326, .int .i64 (0), .str 5 219871787622, .int .i64 (0), .str 5 224166754918, .int .i64 (0), .str 5 228461722214, .int .i64 (0), .str 5 232756689510, .int .i64 (0), .str 5 237051656806, .int .i64 (0), .str 5 241346624102, .int .i64 (0)])]
def crH18b20 : List (Nat × Nat × List SV) := [(310, 9, [.str 1 103, .str 1 104]), (248, 115, [.str 4 811678310, .int .i64 (0), .str 4 828455526, .int .i64 (0), .str 4 845232742, .int .i64 (0), .str 4 862009958, .int .i64 (0), .str 4 878787174, .int .i64 (0), .str 4 895564390, .int .i64 (0), .str 4 912341606, .int .i64 (0), .str 4 929118822, .int .i64 (0), .str 4 945896038, .int .i64 (0), .str 4 962673254, .int .i64 (0), .str 5 206986885734, .int .i64 (0), .str 5 211281853030, .int .i64 (0), .str 5 215576820326, .int .i64 (0), .str 5 219871787622, .int .i64 (0), .str 5 224166754918, .int .i64 (0), .str 5 228461722214, .int .i64 (0), .str 5 232756689510, .int .i64 (0), .str 5 237051656806, .int .i64 (0), .str 5 241346624102, .int .i64 (0)])]
def crH18b21 : List (Nat × Nat × List SV) := [(311, 9, [.str 1 103, .str 1 104]), (248, 115, [.str 4 811678310, .int .i64 (0), .str 4 828455526, .int .i64 (0), .str 4 845232742, .int .i64 (0), .str 4 862009958, .int .i64 (0), .str 4 878787174, .int .i64 (0), .str 4 895564390, .int .i64 (0), .str 4 912341606, .int .i64 (0), .str 4 929118822, .int .i64 (0), .str 4 945896038, .int .i64 (0), .str 4 962673254, .int .i64 (0), .str 5 206986885734, .int .i64 (0), .str 5 211281853030, .int .i64 (0), .str 5 215576820326, .int .i64 (0), .str 5 219871787622, .int .i64 (0), .str 5 224166754918, .int .i64 (0), .str 5 228461722214, .int .i64 (0), .str 5 232756689510, .int .i64 (0), .str 5 237051656806, .int .i64 (0), .str 5 241346624102, .int .i64 (0)])]
def crH18b22 : List (Nat × Nat × List SV) := [(312, 9, [.str 1 103, .str 1 104]), (248, 115, [.str 4 811678310, .int .i64 (0), .str 4 828455526, .int .i64 (0), .str 4 845232742, .int .i64 (0), .str 4 862009958, .int .i64 (0), .str 4 878787174, .int .i64 (0), .str 4 895564390, .int .i64 (0), .str 4 912341606, .int .i64 (0), .str 4 929118822, .int .i64 (0), .str 4 945896038, .int .i64 (0), .str 4 962673254, .int .i64 (0), .str 5 206986885734, .int .i64 (0), .str 5 211281853030, .int .i64 (0), .str 5 215576820326, .int .i64 (0), .str 5 219871787622, .int .i64 (0), .str 5 224166754918, .int .i64 (0), .str 5 228461722214, .int .i64 (0), .str 5 232756689510, .int .i64 (0), .str 5 237051656806, .int .i64 (0), .str 5 241346624102, .int .i64 (0)])]
def crH18b23 : List (Nat × Nat × List SV) := [(315, 49, [.nils, .nils])]
def crH18b24 : List (Nat × Nat × List SV) := [(319, 49, [.nils, .nils])]
def crH18b25 : List (Nat × Nat × List SV) := [(316, 49, [.nils, .nils])]
def crH18b26 : List (Nat × Nat × List SV) := [(320, 49, [.nils, .nils])]
def crH18b27 : List (Nat × Nat × List SV) := [(317, 49, [.nils, .nils])]
def crH18b28 : List (Nat × Nat × List SV) := [(321, 49, [.nils, .nils])]
def crH18b29 : List (Nat × Nat × List SV) := [(318, 49, [.nils, .nils])]
def crH18b30 : List (Nat × Nat × List SV) := [(322, 49, [.nils, .nils])]
def crH18b31 : List (Nat × Nat × List SV) := [(323, 49, [.nils, .nils])]
def crH18b32 : List (Nat × Nat × List SV) := [(324, 49, [.nils, .nils])]
def crH18b33 : List (Nat × Nat × List SV) := [(325, 49, [.nils, .nils])]
def crH18b34 : List (Nat × Nat × List SV) := [(326, 49, [.nils, .nils])]
def crH18b35 : List (Nat × Nat × List SV) := [(327, 49, [.nils, .nils])]
def crH18b36 : List (Nat × Nat × List SV) := [(328, 49, [.nils, .nils])]
def crH18b37 : List (Nat × Nat × List SV) := [(329, 49, [.nils, .nils])]
def crH18b38 : List (Nat × Nat × List SV) := [(330, 49, [.nils, .nils])]
def crH18b39 : List (Nat × Nat × List SV) := [(331, 49, [.nils, .nils])]
def crH18b40 : List (Nat × Nat × List SV) := [(332, 49, [.nils, .nils])]
def crH18b41 : List (Nat × Nat × List SV) := [(333, 49, [.nils, .nils])]
def crH18b42 : List (Nat × Nat × List SV) := [(334, 49, [.nils, .nils])]
def crH18b43 : List (Nat × Nat × List SV) := [(335, 49, [.nils, .nils])]
def crH18b44 : List (Nat × Nat × List SV) := [(336, 49, [.nils, .nils])]
def crH18b45 : List (Nat × Nat × List SV) := [(337, 49, [.nils, .nils])]
def crH18b46 : List (Nat × Nat × List SV) := [(829, 49, [.nils, .nils])]
def crH18b47 : List (Nat × Nat × List SV) := [(836, 49, [.nils, .nils])]
def crH18b48 : List (Nat × Nat × List SV) := [(844, 49, [.nils, .nils])]
def crH18b49 : List (Nat × Nat × List SV) := [(853, 49, [.nils, .nils])]
def crH18b50 : List (Nat × Nat × List SV) := [(863, 49, [.nils, .nils])]
def crH18b51 : List (Nat × Nat × List SV) := [(874, 49, [.nils, .nils])]
def crH18b52 : List (Nat × Nat × List SV) := [(886, 49, [.nils, .nils])]
def crH18b53 : List (Nat × Nat × List SV) := [(899, 49, [.nils, .nils])]
def crH18b54 : List (Nat × Nat × List SV) := [(913, 49, [.nils, .nils])]
def crH18b55 : List (Nat × Nat × List SV) := [(928, 49, [.nils, .nils])]
def crH18b56 : List (Nat × Nat × List SV) := [(944, 49, [.nils, .nils])]
def crH18b57 : List (Nat × Nat × List SV) := [(961, 49, [.nils, .nils])]
def crH18b58 : List (Nat × Nat × List SV) := [(979, 49, [.nils, .nils])]
def crH18b59 : List (Nat × Nat × List SV) := [(998, 49, [.nils, .nils])]
def crH18b60 : List (Nat × Nat × List SV) := [(1018, 49, [.nils, .nils])]
def crH18b61 : List (Nat × Nat × List SV) := [(1039, 49, [.nils, .nils])]
def crH18b62 : List (Nat × Nat × List SV) := [(1061, 49, [.nils, .nils])]
def crH18b63 : List (Nat × Nat × List SV) := [(1084, 49, [.nils, .nils])]
def crH18b64 : List (Nat × Nat × List SV) := [(1108, 49, [.nils, .nils])]
def crH18b65 : List (Nat × Nat × List SV) := [(1133, 49, [.nils, .nils])]
def crH18b66 : List (Nat × Nat × List SV) := [(1138, 49, [.nils, .nils])]
def crH18b67 : List (Nat × Nat × List SV) := [(1621, 49, [.nils, .nils])]
def crH18b68 : List (Nat × Nat × List SV) := [(1630, 49, [.nils, .nils])]
def crH18b69 : List (Nat × Nat × List SV) := [(1640, 49, [.nils, .nils])]
def crH18b70 : List (Nat × Nat × List SV) := [(1651, 49, [.nils, .nils])]
def crH18b71 : List (Nat × Nat × List SV) := [(1663, 49, [.nils, .nils])]
def crH18b72 : List (Nat × Nat × List SV) := [(1676, 49, [.nils, .nils])]
def crH18b73 : List (Nat × Nat × List SV) := [(1690, 49, [.nils, .nils])]
def crH18b74 : List (Nat × Nat × List SV) := [(1705, 49, [.nils, .nils])]
def crH18b75 : List (Nat × Nat × List SV) := [(1721, 49, [.nils, .nils])]
def crH18b76 : List (Nat × Nat × List SV) := [(1738, 49, [.nils, .nils])]
def crH18b77 : List (Nat × Nat × List SV) := [(1756, 49, [.nils, .nils])]
def crH18b78 : List (Nat × Nat × List SV) := [(1775, 49, [.nils, .nils])]
def crH18b79 : List (Nat × Nat × List SV) := [(1795, 49, [.nils, .nils])]
def crH18b80 : List (Nat × Nat × List SV) := [(1816, 49, [.nils, .nils])]
def crH18b81 : List (Nat × Nat × List SV) := [(1838, 49, [.nils, .nils])]
def crH18b82 : List (Nat × Nat × List SV) := [(1861, 49, [.nils, .nils])]
def crH18b83 : List (Nat × Nat × List SV) := [(1885, 49, [.nils, .nils])]
def crH18b84 : List (Nat × Nat × List SV) := [(1910, 49, [.nils, .nils])]
def crH18b85 : List (Nat × Nat × List SV) := [(1936, 49, [.nils, .nils])]
def crH18b86 : List (Nat × Nat × List SV) := [(1948, 9, [.str 1 103])]
def crH18r0 : KRow := ⟨293, [.agg [.int .i64 (19), .str 0 0, .str 4 811678310, .int .i64 (0), .int .i64 (0), .str 0 0, .int .i64 (0), .int .i64 (0), .str 0 0, .int .i64 (0), .int .i64 (0), .int .i64 (0), .str 0 0, .str 0 0, .nils, .nils], .slo 171 0 2 1, .slo 248 0 19 2], crH18b0, .int .i64 (0), none⟩
def crH18r1 : KRow := ⟨293, [.ptr 106 0, .agg [.int .i64 (19), .str 0 0, .str 4 811678310, .int .i64 (0), .int .i64 (0), .str 0 0, .int .i64 (0), .int .i64 (0), .str 0 0, .int .i64 (0), .int .i64 (0), .int .i64 (0), .str 0 0, .str 0 0, .nils, .nils]], [], .bool true, none⟩
def crH18r2 : KRow := ⟨295, [.slc 294 0 2 2], crH18b1, .nils, none⟩
def crH18r3 : KRow := ⟨297, [.slo 165 0 19 1, .str 2 12404], crH18b2, .bool true, none⟩
def crH18r4 : KRow := ⟨299, [.slc 298 0 2 2], crH18b3, .nils, none⟩
def crH18r5 : KRow := ⟨301, [.agg [.int .i64 (1), .str 0 0, .str 1 103, .int .i64 (0), .int .i64 (0), .str 0 0, .int .i64 (0), .int .i64 (0), .str 0 0, .int .i64 (0), .int .i64 (0), .int .i64 (0), .str 0 0, .str 0 0, .nils, .nils], .slo 171 0 2 1, .slo 248 0 19 2], crH18b0, .int .i64 (0), none⟩
def crH18r6 : KRow := ⟨301, [.ptr 106 0, .agg [.int .i64 (1), .str 0 0, .str 1 103, .int .i64 (0), .int .i64 (0), .str 0 0, .int .i64 (0), .int .i64 (0), .str 0 0, .int .i64 (0), .int .i64 (0), .int .i64 (0), .str 0 0, .str 0 0, .nils, .nils]], [], .bool true, none⟩
def crH18r7 : KRow := ⟨297, [.agg [.int .i64 (19), .str 0 0, .str 4 828455526, .int .i64 (0), .int .i64 (0), .str 0 0, .int .i64 (0), .int .i64 (0), .str 0 0, .int .i64 (0), .int .i64 (0), .int .i64 (0), .str 0 0, .str 0 0, .nils, .nils], .slo 294 0 2 1, .slo 248 0 19 2], crH18b4, .int .i64 (0), none⟩
def crH18r8 : KRow := ⟨297, [.ptr 106 0, .agg [.int .i64 (19), .str 0 0, .str 4 828455526, .int .i64 (0), .int .i64 (0), .str 0 0, .int .i64 (0), .int .i64 (0), .str 0 0, .int .i64 (0), .int .i64 (0), .int .i64 (0), .str 0 0, .str 0 0, .nils, .nils]], [], .bool true, none⟩
def crH18r9 : KRow := ⟨298, [.agg [.int .i64 (19), .str 0 0, .str 4 845232742, .int .i64 (0), .int .i64 (0), .str 0 0, .int .i64 (0), .int .i64 (0), .str 0 0, .int .i64 (0), .int .i64 (0), .int .i64 (0), .str 0 0, .str 0 0, .nils, .nils], .slo 295 0 2 1, .slo 248 0 19 2], crH18b5, .int .i64 (0), none⟩
def crH18r10 : KRow := ⟨298, [.ptr 106 0, .agg [.int .i64 (19), .str 0 0, .str 4 845232742, .int .i64 (0), .int .i64 (0), .str 0 0, .int .i64 (0), .int .i64 (0), .str 0 0, .int .i64 (0), .int .i64 (0), .int .i64 (0), .str 0 0, .str 0 0, .nils, .nils]], [], .bool true, none⟩
def crH18r11 : KRow := ⟨299, [.agg [.int .i64 (19), .str 0 0, .str 4 862009958, .int .i64 (0), .int .i64 (0), .str 0 0, .int .i64 (0), .int .i64 (0), .str 0 0, .int .i64 (0), .int .i64 (0), .int .i64 (0), .str 0 0, .str 0 0, .nils, .nils], .slo 296 0 2 1, .slo 248 0 19 2], crH18b6, .int .i64 (0), none⟩
def crH18r12 : KRow := ⟨299, [.ptr 106 0, .agg [.int .i64 (19), .str 0 0, .str 4 862009958, .int .i64 (0), .int .i64 (0), .str 0 0, .int .i64 (0), .int .i64 (0), .str 0 0, .int .i64 (0), .int .i64 (0), .int .i64 (0), .str 0 0, .str 0 0, .nils, .nils]], [], .bool true, none⟩
def crH18r13 : KRow := ⟨300, [.agg [.int .i64 (19), .str 0 0, .str 4 878787174, .int .i64 (0), .int .i64 (0), .str 0 0, .int .i64 (0), .int .i64 (0), .str 0 0, .int .i64 (0), .int .i64 (0), .int .i64 (0), .str 0 0, .str 0 0, .nils, .nils], .slo 297 0 2 1, .slo 248 0 19 2], crH18b7, .int .i64 (0), none⟩
def crH18r14 : KRow := ⟨300, [.ptr 106 0, .agg [.int .i64 (19), .str 0 0, .str 4 878787174, .int .i64 (0), .int .i64 (0), .str 0 0, .int .i64 (0), .int .i64 (0), .str 0 0, .int .i64 (0), .int .i64 (0), .int .i64 (0), .str 0 0, .str 0 0, .nils, .nils]], [], .bool true, none⟩
def crH18r15 : KRow := ⟨301, [.agg [.int .i64 (19), .str 0 0, .str 4 895564390, .int .i64 (0), .int .i64 (0), .str 0 0, .int .i64 (0), .int .i64 (0), .str 0 0, .int .i64 (0), .int .i64 (0), .int .i64 (0), .str 0 0, .str 0 0, .nils, .nils], .slo 298 0 2 1, .slo 248 0 19 2], crH18b8, .int .i64 (0), none⟩
def crH18r16 : KRow := ⟨301, [.ptr 106 0, .agg [.int .i64 (19), .str 0 0, .str 4 895564390, .int .i64 (0), .int .i64 (0), .str 0 0, .int .i64 (0), .int .i64 (0), .str 0 0, .int .i64 (0), .int .i64 (0), .int .i64 (0), .str 0 0, .str 0 0, .nils, .nils]], [], .bool true, none⟩
def crH18r17 : KRow := ⟨302, [.agg [.int .i64 (19), .str 0 0, .str 4 912341606, .int .i64 (0), .int .i64 (0), .str 0 0, .int .i64 (0), .int .i64 (0), .str 0 0, .int .i64 (0), .int .i64 (0), .int .i64 (0), .str 0 0, .str 0 0, .nils, .nils], .slo 299 0 2 1, .slo 248 0 19 2], crH18b9, .int .i64 (0), none⟩
def crH18r18 : KRow := ⟨302, [.ptr 106 0, .agg [.int .i64 (19), .str 0 0, .str 4 912341606, .int .i64 (0), .int .i64 (0), .str 0 0, .int .i64 (0), .int .i64 (0), .str 0 0, .int .i64 (0), .int .i64 (0), .int .i64 (0), .str 0 0, .str 0 0, .nils, .nils]], [], .bool true, none⟩
def crH18r19 : KRow := ⟨303, [.agg [.int .i64 (19), .str 0 0, .str 4 929118822, .int .i64 (0), .int .i64 (0), .str 0 0, .int .i64 (0), .int .i64 (0), .str 0 0, .int .i64 (0), .int .i64 (0), .int .i64 (0), .str 0 0, .str 0 0, .nils, .nils], .slo 300 0 2 1, .slo 248 0 19 2], crH18b10, .int .i64 (0), none⟩
def crH18r20 : KRow := ⟨303, [.ptr 106 0, .agg [.int .i64 (19), .str 0 0, .str 4 929118822, .int .i64 (0), .int .i64 (0), .str 0 0, .int .i64 (0), .int .i64 (0), .str 0 0, .int .i64 (0), .int .i64 (0), .int .i64 (0), .str 0 0, .str 0 0, .nils, .nils]], [], .bool true, none⟩
def crH18r21 : KRow := ⟨304, [.agg [.int .i64 (19), .str 0 0, .str 4 945896038, .int .i64 (0), .int .i64 (0), .str 0 0, .int .i64 (0), .int .i64 (0), .str 0 0, .int .i64 (0), .int .i64 (0), .int .i64 (0), .str 0 0, .str 0 0, .nils, .nils], .slo 301 0 2 1, .slo 248 0 19 2], crH18b11, .int .i64 (0), none⟩
def crH18r22 : KRow := ⟨304, [.ptr 106 0, .agg [.int .i64 (19), .str 0 0, .str 4 945896038, .int .i64 (0), .int .i64 (0), .str 0 0, .int .i64 (0), .int .i64 (0), .str 0 0, .int .i64 (0), .int .i64 (0), .int .i64 (0), .str 0 0, .str 0 0, .nils, .nils]], [], .bool true, none⟩
def crH18r23 : KRow := ⟨305, [.agg [.int .i64 (19), .str 0 0, .str 4 962673254, .int .i64 (0), .int .i64 (0), .str 0 0, .int .i64 (0), .int .i64 (0), .str 0 0, .int .i64 (0), .int .i64 (0), .int .i64 (0), .str 0 0, .str 0 0, .nils, .nils], .slo 302 0 2 1, .slo 248 0 19 2], crH18b12, .int .i64 (0), none⟩
def crH18r24 : KRow := ⟨305, [.ptr 106 0, .agg [.int .i64 (19), .str 0 0, .str 4 962673254, .int .i64 (0), .int .i64 (0), .str 0 0, .int .i64 (0), .int .i64 (0), .str 0 0, .int .i64 (0), .int .i64 (0), .int .i64 (0), .str 0 0, .str 0 0, .nils, .nils]], [], .bool true, none⟩
def crH18r25 : KRow := ⟨306, [.agg [.int .i64 (19), .str 0 0, .str 5 206986885734, .int .i64 (0), .int .i64 (0), .str 0 0, .int .i64 (0), .int .i64 (0), .str 0 0, .int .i64 (0), .int .i64 (0), .int .i64 (0), .str 0 0, .str 0 0, .nils, .nils], .slo 303 0 2 1, .slo 248 0 19 2], crH18b13, .int .i64 (0), none⟩
def crH18r26 : KRow := ⟨306, [.ptr 106 0, .agg [.int .i64 (19), .str 0 0, .str 5 206986885734, .int .i64 (0), .int .i64 (0), .str 0 0, .int .i64 (0), .int .i64 (0), .str 0 0, .int .i64 (0), .int .i64 (0), .int .i64 (0), .str 0 0, .str 0 0, .nils, .nils]], [], .bool true, none⟩
def crH18r27 : KRow := ⟨307, [.agg [.int .i64 (19), .str 0 0, .str 5 211281853030, .int .i64 (0), .int .i64 (0), .str 0 0, .int .i64 (0), .int .i64 (0), .str 0 0, .int .i64 (0), .int .i64 (0), .int .i64 (0), .str 0 0, .str 0 0, .nils, .nils], .slo 304 0 2 1, .slo 248 0 19 2], crH18b14, .int .i64 (0), none⟩
def crH18r28 : KRow := ⟨307, [.ptr 106 0, .agg [.int .i64 (19), .str 0 0, .str 5 211281853030, .int .i64 (0), .int .i64 (0), .str 0 0, .int .i64 (0), .int .i64 (0), .str 0 0, .int .i64 (0), .int .i64 (0), .int .i64 (0), .str 0 0, .str 0 0, .nils, .nils]], [], .bool true, none⟩
def crH18r29 : KRow := ⟨308, [.agg [.int .i64 (19), .str 0 0, .str 5 215576820326, .int .i64 (0), .int .i64 (0), .str 0 0, .int .i64 (0), .int .i64 (0), .str 0 0, .int .i64 (0), .int .i64 (0), .int .i64 (0), .str 0 0, .str 0 0, .nils, .nils], .slo 305 0 2 1, .slo 248 0 19 2], crH18b15, .int .i64 (0), none⟩
def crH18r30 : KRow := ⟨308, [.ptr 106 0, .agg [.int .i64 (19), .str 0 0, .str 5 215576820326, .int .i64 (0), .int .i64 (0), .str 0 0, .int .i64 (0), .int .i64 (0), .str 0 0, .int .i64 (0), .int .i64 (0), .int .i64 (0), .str 0 0, .str 0 0, .nils, .nils]], [], .bool true, none⟩
def crH18r31 : KRow := ⟨309, [.agg [.int .i64 (19), .str 0 0, .str 5 219871787622, .int .i64 (0), .int .i64 (0), .str 0 0, .int .i64 (0), .int .i64 (0), .str 0 0, .int .i64 (0), .int .i64 (0), .int .i64 (0), .str 0 0, .str 0 0, .nils, .nils], .slo 306 0 2 1, .slo 248 0 19 2], crH18b16, .int .i64 (0), none⟩
def crH18r32 : KRow := ⟨309, [.ptr 106 0, .agg [.int .i64 (19), .str 0 0, .str 5 219871787622, .int .i64 (0), .int .i64 (0), .str 0 0, .int .i64 (0), .int .i64 (0), .str 0 0, .int .i64 (0), .int .i64 (0), .int .i64 (0), .str 0 0, .str 0 0, .nils, .nils]], [], .bool true, none⟩
def crH18r33 : KRow := ⟨310, [.agg [.int .i64 (19), .str 0 0, .str 5 224166754918, .int .i64 (0), .int .i64 (0), .str 0 0, .int .i64 (0), .int .i64 (0), .str 0 0, .int .i64 (0), .int .i64 (0), .int .i64 (0), .str 0 0, .str 0 0, .nils, .nils], .slo 307 0 2 1, .slo 248 0 19 2], crH18b17, .int .i64 (0), none⟩
def crH18r34 : KRow := ⟨310, [.ptr 106 0, .agg [.int .i64 (19), .str 0 0, .str 5 224166754918, .int .i64 (0), .int .i64 (0), .str 0 0, .int .i64 (0), .int .i64 (0), .str 0 0, .int .i64 (0), .int .i64 (0), .int .i64 (0), .str 0 0, .str 0 0, .nils, .nils]], [], .bool true, none⟩
def crH18r35 : KRow := ⟨311, [.agg [.int .i64 (19), .str 0 0, .str 5 228461722214, .int .i64 (0), .int .i64 (0), .str 0 0, .int .i64 (0), .int .i64 (0), .str 0 0, .int .i64 (0), .int .i64 (0), .int .i64 (0), .str 0 0, .str 0 0, .nils, .nils], .slo 308 0 2 1, .slo 248 0 19 2], crH18b18, .int .i64 (0), none⟩
def crH18r36 : KRow := ⟨311, [.ptr 106 0, .agg [.int .i64 (19), .str 0 0, .str 5 228461722214, .int .i64 (0), .int .i64 (0), .str 0 0, .int .i64 (0), .int .i64 (0), .str 0 0, .int .i64 (0), .int .i64 (0), .int .i64 (0), .str 0 0, .str 0 0, .nils, .nils]], [], .bool true, none⟩
def crH18r37 : KRow := ⟨312, [.agg [.int .i64 (19), .str 0 0, .str 5 232756689510, .int .i64 (0), .int .i64 (0), .str 0 0, .int .i64 (0), .int .i64 (0), .str 0 0, .int .i64 (0), .int .i64 (0), .int .i64 (0), .str 0 0, .str 0 0, .nils, .nils], .slo 309 0 2 1, .slo 248 0 19 2], crH18b19, .int .i64 (0), none⟩
def crH18r38 : KRow := ⟨312, [.ptr 106 0, .agg [.int .i64 (19), .str 0 0, .str 5 232756689510, .int .i64 (0), .int .i64 (0), .str 0 0, .int .i64 (0), .int .i64 (0), .str 0 0, .int .i64 (0), .int .i64 (0), .int .i64 (0), .str 0 0, .str 0 0, .nils, .nils]], [], .bool true, none⟩
def crH18r39 : KRow := ⟨313, [.agg [.int .i64 (19), .str 0 0, .str 5 237051656806, .int .i64 (0), .int .i64 (0), .str 0 0, .int .i64 (0), .int .i64 (0), .str 0 0, .int .i64 (0), .int .i64 (0), .int .i64 (0), .str 0 0, .str 0 0, .nils, .nils], .slo 310 0 2 1, .slo 248 0 19 2], crH18b20, .int .i64 (0), none⟩
def crH18r40 : KRow := ⟨313, [.ptr 106 0, .agg [.int .i64 (19), .str 0 0, .str 5 237051656806, .int .i64 (0), .int .i64 (0), .str 0 0, .int .i64 (0), .int .i64 (0), .str 0 0, .int .i64 (0), .int .i64 (0), .int .i64 (0), .str 0 0, .str 0 0, .nils, .nils]], [], .bool true, none⟩
def crH18r41 : KRow := ⟨314, [.agg [.int .i64 (19), .str 0 0, .str 5 241346624102, .int .i64 (0), .int .i64 (0), .str 0 0, .int .i64 (0), .int .i64 (0), .str 0 0, .int .i64 (0), .int .i64 (0), .int .i64 (0), .str 0 0, .str 0 0, .nils, .nils], .slo 311 0 2 1, .slo 248 0 19 2], crH18b21, .int .i64 (0), none⟩
def crH18r42 : KRow := ⟨314, [.ptr 106 0, .agg [.int .i64 (19), .str 0 0, .str 5 241346624102, .int .i64 (0), .int .i64 (0), .str 0 0, .int .i64 (0), .int .i64 (0), .str 0 0, .int .i64 (0), .int .i64 (0), .int .i64 (0), .str 0 0, .str 0 0, .nils, .nils]], [], .bool true, none⟩
def crH18r43 : KRow := ⟨315, [.agg [.int .i64 (19), .str 0 0, .str 4 811678310, .int .i64 (0), .int .i64 (0), .str 0 0, .int .i64 (0), .int .i64 (0), .str 0 0, .int .i64 (0), .int .i64 (0), .int .i64 (0), .str 0 0, .str 0 0, .nils, .nils], .slo 312 0 2 1, .slo 248 0 19 2], crH18b22, .int .i64 (0), none⟩
def crH18r44 : KRow := ⟨315, [.ptr 106 0, .agg [.int .i64 (19), .str 0 0, .str 4 811678310, .int .i64 (0), .int .i64 (0), .str 0 0, .int .i64 (0), .int .i64 (0), .str 0 0, .int .i64 (0), .int .i64 (0), .int .i64 (0), .str 0 0, .str 0 0, .nils, .nils]], [], .bool true, none⟩
def crH18r45 : KRow := ⟨316, [.slc 315 0 2 2], crH18b23, .nils, none⟩
def crH18r46 : KRow := ⟨318, [.slo 165 0 19 1, .str 2 12660], crH18b2, .bool true, none⟩
def crH18r47 : KRow := ⟨320, [.slc 319 0 2 2], crH18b24, .nils, none⟩
def crH18r48 : KRow := ⟨322, [.agg [.int .i64 (19), .str 0 0, .str 4 828455526, .int .i64 (0), .int .i64 (0), .str 0 0, .int .i64 (0), .int .i64 (0), .str 0 0, .int .i64 (0), .int .i64 (0), .int .i64 (0), .str 0 0, .str 0 0, .nils, .nils], .slo 171 0 2 1, .slo 248 0 19 2], crH18b0, .int .i64 (0), none⟩
def crH18r49 : KRow := ⟨322, [.ptr 106 0, .agg [.int .i64 (19), .str 0 0, .str 4 828455526, .int .i64 (0), .int .i64 (0), .str 0 0, .int .i64 (0), .int .i64 (0), .str 0 0, .int .i64 (0), .int .i64 (0), .int .i64 (0), .str 0 0, .str 0 0, .nils, .nils]], [], .bool true, none⟩
def crH18r50 : KRow := ⟨317, [.slc 316 0 2 2], crH18b25, .nils, none⟩
def crH18r51 : KRow := ⟨319, [.slo 165 0 19 1, .str 2 12916], crH18b2, .bool true, none⟩
def crH18r52 : KRow := ⟨321, [.slc 320 0 2 2], crH18b26, .nils, none⟩
def crH18r53 : KRow := ⟨323, [.agg [.int .i64 (19), .str 0 0, .str 4 845232742, .int .i64 (0), .int .i64 (0), .str 0 0, .int .i64 (0), .int .i64 (0), .str 0 0, .int .i64 (0), .int .i64 (0), .int .i64 (0), .str 0 0, .str 0 0, .nils, .nils], .slo 171 0 2 1, .slo 248 0 19 2], crH18b0, .int .i64 (0), none⟩
def crH18r54 : KRow := ⟨323, [.ptr 106 0, .agg [.int .i64 (19), .str 0 0, .str 4 845232742, .int .i64 (0), .int .i64 (0), .str 0 0, .int .i64 (0), .int .i64 (0), .str 0 0, .int .i64 (0), .int .i64 (0), .int .i64 (0), .str 0 0, .str 0 0, .nils, .nils]], [], .bool true, none⟩
def crH18r55 : KRow := ⟨318, [.slc 317 0 2 2], crH18b27, .nils, none⟩
def crH18r56 : KRow := ⟨320, [.slo 165 0 19 1, .str 2 13172], crH18b2, .bool true, none⟩
def crH18r57 : KRow := ⟨322, [.slc 321 0 2 2], crH18b28, .nils, none⟩
def crH18r58 : KRow := ⟨324, [.agg [.int .i64 (19), .str 0 0, .str 4 862009958, .int .i64 (0), .int .i64 (0), .str 0 0, .int .i64 (0), .int .i64 (0), .str 0 0, .int .i64 (0), .int .i64 (0), .int .i64 (0), .str 0 0, .str 0 0, .nils, .nils], .slo 171 0 2 1, .slo 248 0 19 2], crH18b0, .int .i64 (0), none⟩
def crH18r59 : KRow := ⟨324, [.ptr 106 0, .agg [.int .i64 (19), .str 0 0, .str 4 862009958, .int .i64 (0), .int .i64 (0), .str 0 0, .int .i64 (0), .int .i64 (0), .str 0 0, .int .i64 (0), .int .i64 (0), .int .i64 (0), .str 0 0, .str 0 0, .nils, .nils]], [], .bool true, none⟩
def crH18r60 : KRow := ⟨319, [.slc 318 0 2 2], crH18b29, .nils, none⟩
def crH18r61 : KRow := ⟨321, [.slo 165 0 19 1, .str 2 13428], crH18b2, .bool true, none⟩
def crH18r62 : KRow := ⟨323, [.slc 322 0 2 2], crH18b30, .nils, none⟩
def crH18r63 : KRow := ⟨325, [.agg [.int .i64 (19), .str 0 0, .str 4 878787174, .int .i64 (0), .int .i64 (0), .str 0 0, .int .i64 (0), .int .i64 (0), .str 0 0, .int .i64 (0), .int .i64 (0), .int .i64 (0), .str 0 0, .str 0 0, .nils, .nils], .slo 171 0 2 1, .slo 248 0 19 2], crH18b0, .int .i64 (0), none⟩
def crH18r64 : KRow := ⟨325, [.ptr 106 0, .agg [.int .i64 (19), .str 0 0, .str 4 878787174, .int .i64 (0), .int .i64 (0), .str 0 0, .int .i64 (0), .int .i64 (0), .str 0 0, .int .i64 (0), .int .i64 (0), .int .i64 (0), .str 0 0, .str 0 0, .nils, .nils]], [], .bool true, none⟩
def crH18r65 : KRow := ⟨320, [.slc 319 0 2 2], crH18b24, .nils, none⟩
def crH18r66 : KRow := ⟨322, [.slo 165 0 19 1, .str 2 13684], crH18b2, .bool true, none⟩
def crH18r67 : KRow := ⟨324, [.slc 323 0 2 2], crH18b31, .nils, none⟩
def crH18r68 : KRow := ⟨326, [.agg [.int .i64 (19), .str 0 0, .str 4 895564390, .int .i64 (0), .int .i64 (0), .str 0 0, .int .i64 (0), .int .i64 (0), .str 0 0, .int .i64 (0), .int .i64 (0), .int .i64 (0), .str 0 0, .str 0 0, .nils, .nils], .slo 171 0 2 1, .slo 248 0 19 2], crH18b0, .int .i64 (0), none⟩
def crH18r69 : KRow := ⟨326, [.ptr 106 0, .agg [.int .i64 (19), .str 0 0, .str 4 895564390, .int .i64 (0), .int .i64 (0), .str 0 0, .int .i64 (0), .int .i64 (0), .str 0 0, .int .i64 (0), .int .i64 (0), .int .i64 (0), .str 0 0, .str 0 0, .nils, .nils]], [], .bool true, none⟩
def crH18r70 : KRow := ⟨321, [.slc 320 0 2 2], crH18b26, .nils, none⟩
def crH18r71 : KRow := ⟨323, [.slo 165 0 19 1, .str 2 13940], crH18b2, .bool true, none⟩
def crH18r72 : KRow := ⟨325, [.slc 324 0 2 2], crH18b32, .nils, none⟩
def crH18r73 : KRow := ⟨327, [.agg [.int .i64 (19), .str 0 0, .str 4 912341606, .int .i64 (0), .int .i64 (0), .str 0 0, .int .i64 (0), .int .i64 (0), .str 0 0, .int .i64 (0), .int .i64 (0), .int .i64 (0), .str 0 0, .str 0 0, .nils, .nils], .slo 171 0 2 1, .slo 248 0 19 2], crH18b0, .int .i64 (0), none⟩
def crH18r74 : KRow := ⟨327, [.ptr 106 0, .agg [.int .i64 (19), .str 0 0, .str 4 912341606, .int .i64 (0), .int .i64 (0), .str 0 0, .int .i64 (0), .int .i64 (0), .str 0 0, .int .i64 (0), .int .i64 (0), .int .i64 (0), .str 0 0, .str 0 0, .nils, .nils]], [], .bool true, none⟩
def crH18r75 : KRow := ⟨322, [.slc 321 0 2 2], crH18b28, .nils, none⟩
def crH18r76 : KRow := ⟨324, [.slo 165 0 19 1, .str 2 14196], crH18b2, .bool true, none⟩
def crH18r77 : KRow := ⟨326, [.slc 325 0 2 2], crH18b33, .nils, none⟩
def crH18r78 : KRow := ⟨328, [.agg [.int .i64 (19), .str 0 0, .str 4 929118822, .int .i64 (0), .int .i64 (0), .str 0 0, .int .i64 (0), .int .i64 (0), .str 0 0, .int .i64 (0), .int .i64 (0), .int .i64 (0), .str 0 0, .str 0 0, .nils, .nils], .slo 171 0 2 1, .slo 248 0 19 2], crH18b0, .int .i64 (0), none⟩
def crH18r79 : KRow := ⟨328, [.ptr 106 0, .agg [.int .i64 (19), .str 0 0, .str 4 929118822, .int .i64 (0), .int .i64 (0), .str 0 0, .int .i64 (0), .int .i64 (0), .str 0 0, .int .i64 (0), .int .i64 (0), .int .i64 (0), .str 0 0, .str 0 0, .nils, .nils]], [], .bool true, none⟩
def crH18r80 : KRow := ⟨323, [.slc 322 0 2 2], crH18b30, .nils, none⟩
def crH18r81 : KRow := ⟨325, [.slo 165 0 19 1, .str 2 14452], crH18b2, .bool true, none⟩
def crH18r82 : KRow := ⟨327, [.slc 326 0 2 2], crH18b34, .nils, none⟩
def crH18r83 : KRow := ⟨329, [.agg [.int .i64 (19), .str 0 0, .str 4 945896038, .int .i64 (0), .int .i64 (0), .str 0 0, .int .i64 (0), .int .i64 (0), .str 0 0, .int .i64 (0), .int .i64 (0), .int .i64 (0), .str 0 0, .str 0 0, .nils, .nils], .slo 171 0 2 1, .slo 248 0 19 2], crH18b0, .int .i64 (0), none⟩
def crH18r84 : KRow := ⟨329, [.ptr 106 0, .agg [.int .i64 (19), .str 0 0, .str 4 945896038, .int .i64 (0), .int .i64 (0), .str 0 0, .int .i64 (0), .int .i64 (0), .str 0 0, .int .i64 (0), .int .i64 (0), .int .i64 (0), .str 0 0, .str 0 0, .nils, .nils]], [], .bool true, none⟩
def crH18r85 : KRow := ⟨324, [.slc 323 0 2 2], crH18b31, .nils, none⟩
def crH18r86 : KRow := ⟨326, [.slo 165 0 19 1, .str 2 14708], crH18b2, .bool true, none⟩
def crH18r87 : KRow := ⟨328, [.slc 327 0 2 2], crH18b35, .nils, none⟩
def crH18r88 : KRow := ⟨330, [.agg [.int .i64 (19), .str 0 0, .str 4 962673254, .int .i64 (0), .int .i64 (0), .str 0 0, .int .i64 (0), .int .i64 (0), .str 0 0, .int .i64 (0), .int .i64 (0), .int .i64 (0), .str 0 0, .str 0 0, .nils, .nils], .slo 171 0 2 1, .slo 248 0 19 2], crH18b0, .int .i64 (0), none⟩
def crH18r89 : KRow := ⟨330, [.ptr 106 0, .agg [.int .i64 (19), .str 0 0, .str 4 962673254, .int .i64 (0), .int .i64 (0), .str 0 0, .int .i64 (0), .int .i64 (0), .str 0 0, .int .i64 (0), .int .i64 (0), .int .i64 (0), .str 0 0, .str 0 0, .nils, .nils]], [], .bool true, none⟩
def crH18r90 : KRow := ⟨325, [.slc 324 0 2 2], crH18b32, .nils, none⟩
def crH18r91 : KRow := ⟨327, [.slo 165 0 19 1, .str 3 3158388], crH18b2, .bool true, none⟩
def crH18r92 : KRow := ⟨329, [.slc 328 0 2 2], crH18b36, .nils, none⟩
def crH18r93 : KRow := ⟨331, [.agg [.int .i64 (19), .str 0 0, .str 5 206986885734, .int .i64 (0), .int .i64 (0), .str 0 0, .int .i64 (0), .int .i64 (0), .str 0 0, .int .i64 (0), .int .i64 (0), .int .i64 (0), .str 0 0, .str 0 0, .nils, .nils], .slo 171 0 2 1, .slo 248 0 19 2], crH18b0, .int .i64 (0), none⟩
def crH18r94 : KRow := ⟨331, [.ptr 106 0, .agg [.int .i64 (19), .str 0 0, .str 5 206986885734, .int .i64 (0), .int .i64 (0), .str 0 0, .int .i64 (0), .int .i64 (0), .str 0 0, .int .i64 (0), .int .i64 (0), .int .i64 (0), .str 0 0, .str 0 0, .nils, .nils]], [], .bool true, none⟩
def crH18r95 : KRow := ⟨326, [.slc 325 0 2 2], crH18b33, .nils, none⟩
def crH18r96 : KRow := ⟨328, [.slo 165 0 19 1, .str 3 3223924], crH18b2, .bool true, none⟩
def crH18r97 : KRow := ⟨330, [.slc 329 0 2 2], crH18b37, .nils, none⟩
def crH18r98 : KRow := ⟨332, [.agg [.int .i64 (19), .str 0 0, .str 5 211281853030, .int .i64 (0), .int .i64 (0), .str 0 0, .int .i64 (0), .int .i64 (0), .str 0 0, .int .i64 (0), .int .i64 (0), .int .i64 (0), .str 0 0, .str 0 0, .nils, .nils], .slo 171 0 2 1, .slo 248 0 19 2], crH18b0, .int .i64 (0), none⟩
def crH18r99 : KRow := ⟨332, [.ptr 106 0, .agg [.int .i64 (19), .str 0 0, .str 5 211281853030, .int .i64 (0), .int .i64 (0), .str 0 0, .int .i64 (0), .int .i64 (0), .str 0 0, .int .i64 (0), .int .i64 (0), .int .i64 (0), .str 0 0, .str 0 0, .nils, .nils]], [], .bool true, none⟩
def crH18r100 : KRow := ⟨327, [.slc 326 0 2 2], crH18b34, .nils, none⟩
def crH18r101 : KRow := ⟨329, [.slo 165 0 19 1, .str 3 3289460], crH18b2, .bool true, none⟩
def crH18r102 : KRow := ⟨331, [.slc 330 0 2 2], crH18b38, .nils, none⟩
def crH18r103 : KRow := ⟨333, [.agg [.int .i64 (19), .str 0 0, .str 5 215576820326, .int .i64 (0), .int .i64 (0), .str 0 0, .int .i64 (0), .int .i64 (0), .str 0 0, .int .i64 (0), .int .i64 (0), .int .i64 (0), .str 0 0, .str 0 0, .nils, .nils], .slo 171 0 2 1, .slo 248 0 19 2], crH18b0, .int .i64 (0), none⟩
def crH18r104 : KRow := ⟨333, [.ptr 106 0, .agg [.int .i64 (19), .str 0 0, .str 5 215576820326, .int .i64 (0), .int .i64 (0), .str 0 0, .int .i64 (0), .int .i64 (0), .str 0 0, .int .i64 (0), .int .i64 (0), .int .i64 (0), .str 0 0, .str 0 0, .nils, .nils]], [], .bool true, none⟩
def crH18r105 : KRow := ⟨328, [.slc 327 0 2 2], crH18b35, .nils, none⟩
def crH18r106 : KRow := ⟨330, [.slo 165 0 19 1, .str 3 3354996], crH18b2, .bool true, none⟩
def crH18r107 : KRow := ⟨332, [.slc 331 0 2 2], crH18b39, .nils, none⟩
def crH18r108 : KRow := ⟨334, [.agg [.int .i64 (19), .str 0 0, .str 5 219871787622, .int .i64 (0), .int .i64 (0), .str 0 0, .int .i64 (0), .int .i64 (0), .str 0 0, .int .i64 (0), .int .i64 (0), .int .i64 (0), .str 0 0, .str 0 0, .nils, .nils], .slo 171 0 2 1, .slo 248 0 19 2], crH18b0, .int .i64 (0), none⟩
def crH18r109 : KRow := ⟨334, [.ptr 106 0, .agg [.int .i64 (19), .str 0 0, .str 5 219871787622, .int .i64 (0), .int .i64 (0), .str 0 0, .int .i64 (0), .int .i64 (0), .str 0 0, .int .i64 (0), .int .i64 (0), .int .i64 (0), .str 0 0, .str 0 0, .nils, .nils]], [], .bool true, none⟩
def crH18r110 : KRow := ⟨329, [.slc 328 0 2 2], crH18b36, .nils, none⟩
def crH18r111 : KRow := ⟨331, [.slo 165 0 19 1, .str 3 3420532], crH18b2, .bool true, none⟩
def crH18r112 : KRow := ⟨333, [.slc 332 0 2 2], crH18b40, .nils, none⟩
def crH18r113 : KRow := ⟨335, [.agg [.int .i64 (19), .str 0 0, .str 5 224166754918, .int .i64 (0), .int .i64 (0), .str 0 0, .int .i64 (0), .int .i64 (0), .str 0 0, .int .i64 (0), .int .i64 (0), .int .i64 (0), .str 0 0, .str 0 0, .nils, .nils], .slo 171 0 2 1, .slo 248 0 19 2], crH18b0, .int .i64 (0), none⟩
def crH18r114 : KRow := ⟨335, [.ptr 106 0, .agg [.int .i64 (19), .str 0 0, .str 5 224166754918, .int .i64 (0), .int .i64 (0), .str 0 0, .int .i64 (0), .int .i64 (0), .str 0 0, .int .i64 (0), .int .i64 (0), .int .i64 (0), .str 0 0, .str 0 0, .nils, .nils]], [], .bool true, none⟩
def crH18r115 : KRow := ⟨330, [.slc 329 0 2 2], crH18b37, .nils, none⟩
def crH18r116 : KRow := ⟨332, [.slo 165 0 19 1, .str 3 3486068], crH18b2, .bool true, none⟩
def crH18r117 : KRow := ⟨334, [.slc 333 0 2 2], crH18b41, .nils, none⟩
def crH18r118 : KRow := ⟨336, [.agg [.int .i64 (19), .str 0 0, .str 5 228461722214, .int .i64 (0), .int .i64 (0), .str 0 0, .int .i64 (0), .int .i64 (0), .str 0 0, .int .i64 (0), .int .i64 (0), .int .i64 (0), .str 0 0, .str 0 0, .nils, .nils], .slo 171 0 2 1, .slo 248 0 19 2], crH18b0, .int .i64 (0), none⟩
def crH18r119 : KRow := ⟨336, [.ptr 106 0, .agg [.int .i64 (19), .str 0 0, .str 5 228461722214, .int .i64 (0), .int .i64 (0), .str 0 0, .int .i64 (0), .int .i64 (0), .str 0 0, .int .i64 (0), .int .i64 (0), .int .i64 (0), .str 0 0, .str 0 0, .nils, .nils]], [], .bool true, none⟩
def crH18r120 : KRow := ⟨331, [.slc 330 0 2 2], crH18b38, .nils, none⟩
def crH18r121 : KRow := ⟨333, [.slo 165 0 19 1, .str 3 3551604], crH18b2, .bool true, none⟩
def crH18r122 : KRow := ⟨335, [.slc 334 0 2 2], crH18b42, .nils, none⟩
def crH18r123 : KRow := ⟨337, [.agg [.int .i64 (19), .str 0 0, .str 5 232756689510, .int .i64 (0), .int .i64 (0), .str 0 0, .int .i64 (0), .int .i64 (0), .str 0 0, .int .i64 (0), .int .i64 (0), .int .i64 (0), .str 0 0, .str 0 0, .nils, .nils], .slo 171 0 2 1, .slo 248 0 19 2], crH18b0, .int .i64 (0), none⟩
def crH18r124 : KRow := ⟨337, [.ptr 106 0, .agg [.int .i64 (19), .str 0 0, .str 5 232756689510, .int .i64 (0), .int .i64 (0), .str 0 0, .int .i64 (0), .int .i64 (0), .str 0 0, .int .i64 (0), .int .i64 (0), .int .i64 (0), .str 0 0, .str 0 0, .nils, .nils]], [], .bool true, none⟩
def crH18r125 : KRow := ⟨332, [.slc 331 0 2 2], crH18b39, .nils, none⟩
def crH18r126 : KRow := ⟨334, [.slo 165 0 19 1, .str 3 3617140], crH18b2, .bool true, none⟩
def crH18r127 : KRow := ⟨336, [.slc 335 0 2 2], crH18b43, .nils, none⟩
def crH18r128 : KRow := ⟨338, [.agg [.int .i64 (19), .str 0 0, .str 5 237051656806, .int .i64 (0), .int .i64 (0), .str 0 0, .int .i64 (0), .int .i64 (0), .str 0 0, .int .i64 (0), .int .i64 (0), .int .i64 (0), .str 0 0, .str 0 0, .nils, .nils], .slo 171 0 2 1, .slo 248 0 19 2], crH18b0, .int .i64 (0), none⟩
def crH18r129 : KRow := ⟨338, [.ptr 106 0, .agg [.int .i64 (19), .str 0 0, .str 5 237051656806, .int .i64 (0), .int .i64 (0), .str 0 0, .int .i64 (0), .int .i64 (0), .str 0 0, .int .i64 (0), .int .i64 (0), .int .i64 (0), .str 0 0, .str 0 0, .nils, .nils]], [], .bool true, none⟩
def crH18r130 : KRow := ⟨333, [.slc 332 0 2 2], crH18b40, .nils, none⟩
def crH18r131 : KRow := ⟨335, [.slo 165 0 19 1, .str 3 3682676], crH18b2, .bool true, none⟩
def crH18r132 : KRow := ⟨337, [.slc 336 0 2 2], crH18b44, .nils, none⟩
def crH18r133 : KRow := ⟨339, [.agg [.int .i64 (19), .str 0 0, .str 5 241346624102, .int .i64 (0), .int .i64 (0), .str 0 0, .int .i64 (0), .int .i64 (0), .str 0 0, .int .i64 (0), .int .i64 (0), .int .i64 (0), .str 0 0, .str 0 0, .nils, .nils], .slo 171 0 2 1, .slo 248 0 19 2], crH18b0, .int .i64 (0), none⟩
def crH18r134 : KRow := ⟨339, [.ptr 106 0, .agg [.int .i64 (19), .str 0 0, .str 5 241346624102, .int .i64 (0), .int .i64 (0), .str 0 0, .int .i64 (0), .int .i64 (0), .str 0 0, .int .i64 (0), .int .i64 (0), .int .i64 (0), .str 0 0, .str 0 0, .nils, .nils]], [], .bool true, none⟩
def crH18r135 : KRow := ⟨334, [.slc 333 0 2 2], crH18b41, .nils, none⟩
def crH18r136 : KRow := ⟨336, [.slo 165 0 19 1, .str 2 12404], crH18b2, .bool true, none⟩
def crH18r137 : KRow := ⟨338, [.slc 337 0 2 2], crH18b45, .nils, none⟩
def crH18r138 : KRow := ⟨340, [.agg [.int .i64 (19), .str 0 0, .str 4 811678310, .int .i64 (0), .int .i64 (0), .str 0 0, .int .i64 (0), .int .i64 (0), .str 0 0, .int .i64 (0), .int .i64 (0), .int .i64 (0), .str 0 0, .str 0 0, .nils, .nils], .slo 171 0 2 1, .slo 248 0 19 2], crH18b0, .int .i64 (0), none⟩
def crH18r139 : KRow := ⟨340, [.ptr 106 0, .agg [.int .i64 (19), .str 0 0, .str 4 811678310, .int .i64 (0), .int .i64 (0), .str 0 0, .int .i64 (0), .int .i64 (0), .str 0 0, .int .i64 (0), .int .i64 (0), .int .i64 (0), .str 0 0, .str 0 0, .nils, .nils]], [], .bool true, none⟩
def crH18r140 : KRow := ⟨818, [.nils, .str 1 103], [], .bool false, none⟩
def crH18r141 : KRow := ⟨830, [.slc 829 0 2 2], crH18b46, .nils, none⟩
def crH18r142 : KRow := ⟨837, [.slc 836 0 2 2], crH18b47, .nils, none⟩
def crH18r143 : KRow := ⟨845, [.slc 844 0 2 2], crH18b48, .nils, none⟩
def crH18r144 : KRow := ⟨854, [.slc 853 0 2 2], crH18b49, .nils, none⟩
def crH18r145 : KRow := ⟨864, [.slc 863 0 2 2], crH18b50, .nils, none⟩
def crH18r146 : KRow := ⟨875, [.slc 874 0 2 2], crH18b51, .nils, none⟩
def crH18r147 : KRow := ⟨887, [.slc 886 0 2 2], crH18b52, .nils, none⟩
def crH18r148 : KRow := ⟨900, [.slc 899 0 2 2], crH18b53, .nils, none⟩
def crH18r149 : KRow := ⟨914, [.slc 913 0 2 2], crH18b54, .nils, none⟩
def crH18r150 : KRow := ⟨929, [.slc 928 0 2 2], crH18b55, .nils, none⟩
def crH18r151 : KRow := ⟨945, [.slc 944 0 2 2], crH18b56, .nils, none⟩
def crH18r152 : KRow := ⟨962, [.slc 961 0 2 2], crH18b57, .nils, none⟩
def crH18r153 : KRow := ⟨980, [.slc 979 0 2 2], crH18b58, .nils, none⟩
def crH18r154 : KRow := ⟨999, [.slc 998 0 2 2], crH18b59, .nils, none⟩
def crH18r155 : KRow := ⟨1019, [.slc 1018 0 2 2], crH18b60, .nils, none⟩
def crH18r156 : KRow := ⟨1040, [.slc 1039 0 2 2], crH18b61, .nils, none⟩
def crH18r157 : KRow := ⟨1062, [.slc 1061 0 2 2], crH18b62, .nils, none⟩
def crH18r158 : KRow := ⟨1085, [.slc 1084 0 2 2], crH18b63, .nils, none⟩
def crH18r159 : KRow := ⟨1109, [.slc 1108 0 2 2], crH18b64, .nils, none⟩
def crH18r160 : KRow := ⟨1134, [.slc 1133 0 2 2], crH18b65, .nils, none⟩
def crH18r161 : KRow := ⟨1139, [.slc 1138 0 2 2], crH18b66, .nils, none⟩
def crH18r162 : KRow := ⟨1622, [.slc 1621 0 2 2], crH18b67, .nils, none⟩
def crH18r163 : KRow := ⟨1631, [.slc 1630 0 2 2], crH18b68, .nils, none⟩
def crH18r164 : KRow := ⟨1641, [.slc 1640 0 2 2], crH18b69, .nils, none⟩
def crH18r165 : KRow := ⟨1652, [.slc 1651 0 2 2], crH18b70, .nils, none⟩
def crH18r166 : KRow := ⟨1664, [.slc 1663 0 2 2], crH18b71, .nils, none⟩
def crH18r167 : KRow := ⟨1677, [.slc 1676 0 2 2], crH18b72, .nils, none⟩
def crH18r168 : KRow := ⟨1691, [.slc 1690 0 2 2], crH18b73, .nils, none⟩
def crH18r169 : KRow := ⟨1706, [.slc 1705 0 2 2], crH18b74, .nils, none⟩
def crH18r170 : KRow := ⟨1722, [.slc 1721 0 2 2], crH18b75, .nils, none⟩
def crH18r171 : KRow := ⟨1739, [.slc 1738 0 2 2], crH18b76, .nils, none⟩
def crH18r172 : KRow := ⟨1757, [.slc 1756 0 2 2], crH18b77, .nils, none⟩
def crH18r173 : KRow := ⟨1776, [.slc 1775 0 2 2], crH18b78, .nils, none⟩
def crH18r174 : KRow := ⟨1796, [.slc 1795 0 2 2], crH18b79, .nils, none⟩
def crH18r175 : KRow := ⟨1817, [.slc 1816 0 2 2], crH18b80, .nils, none⟩
def crH18r176 : KRow := ⟨1839, [.slc 1838 0 2 2], crH18b81, .nils, none⟩
def crH18r177 : KRow := ⟨1862, [.slc 1861 0 2 2], crH18b82, .nils, none⟩
def crH18r178 : KRow := ⟨1886, [.slc 1885 0 2 2], crH18b83, .nils, none⟩
def crH18r179 : KRow := ⟨1911, [.slc 1910 0 2 2], crH18b84, .nils, none⟩
def crH18r180 : KRow := ⟨1937, [.slc 1936 0 2 2], crH18b85, .nils, none⟩
def crH18r181 : KRow := ⟨1946, [.nils, .str 1 103], [], .bool false, none⟩
def crH18r182 : KRow := ⟨1955, [.slo 1948 0 1 1, .str 1 104], crH18b86, .bool false, none⟩
def crZ18 (f : Nat) : Option XK := cond (Nat.beq f 15) (some (.known [crH18r3, crH18r46, crH18r51, crH18r56, crH18r61, crH18r66, crH18r71, crH18r76, crH18r81, crH18r86, crH18r91, crH18r96, crH18r101, crH18r106, crH18r111, crH18r116, crH18r121, crH18r126, crH18r131, crH18r136, crH18r140, crH18r181, crH18r182])) (cond (Nat.beq f 70) (some (.known [crH18r0, crH18r5, crH18r7, crH18r9, crH18r11, crH18r13, crH18r15, crH18r17, crH18r19, crH18r21, crH18r23, crH18r25, crH18r27, crH18r29, crH18r31, crH18r33, crH18r35, crH18r37, crH18r39, crH18r41, crH18r43, crH18r48, crH18r53, crH18r58, crH18r63, crH18r68, crH18r73, crH18r78, crH18r83, crH18r88, crH18r93, crH18r98, crH18r103, crH18r108, crH18r113, crH18r118, crH18r123, crH18r128, crH18r133, crH18r138])) (cond (Nat.beq f 71) (some (.known [crH18r1, crH18r6, crH18r8, crH18r10, crH18r12, crH18r14, crH18r16, crH18r18, crH18r20, crH18r22, crH18r24, crH18r26, crH18r28, crH18r30, crH18r32, crH18r34, crH18r36, crH18r38, crH18r40, crH18r42, crH18r44, crH18r49, crH18r54, crH18r59, crH18r64, crH18r69, crH18r74, crH18r79, crH18r84, crH18r89, crH18r94, crH18r99, crH18r104, crH18r109, crH18r114, crH18r119, crH18r124, crH18r129, crH18r134, crH18r139])) (cond (Nat.beq f 85) (some (.known [crH18r2, crH18r4, crH18r45, crH18r47, crH18r50, crH18r52, crH18r55, crH18r57, crH18r60, crH18r62, crH18r65, crH18r67, crH18r70, crH18r72, crH18r75, crH18r77, crH18r80, crH18r82, crH18r85, crH18r87, crH18r90, crH18r92, crH18r95, crH18r97, crH18r100, crH18r102, crH18r105, crH18r107, crH18r110, crH18r112, crH18r115, crH18r117, crH18r120, crH18r122, crH18r125, crH18r127, crH18r130, crH18r132, crH18r135, crH18r137, crH18r141, crH18r142, crH18r143, crH18r144, crH18r145, crH18r146, crH18r147, crH18r148, crH18r149, crH18r150, crH18r151, crH18r152, crH18r153, crH18r154, crH18r155, crH18r156, crH18r157, crH18r158, crH18r159, crH18r160, crH18r161, crH18r162, crH18r163, crH18r164, crH18r165, crH18r166, crH18r167, crH18r168, crH18r169, crH18r170, crH18r171, crH18r172, crH18r173, crH18r174, crH18r175, crH18r176, crH18r177, crH18r178, crH18r179, crH18r180])) (crY f))))
noncomputable def crH18run (f : Nat) (r : KRow) : Bool := (ev crE crY Tryz.prog 1001).f.f f r.args ⟨crHp (crHp .e crBs) r.bs, r.nx, big⟩ (rowEnd r) (fun _ _ => false)
theorem crH18r0_run : crH18run 70 crH18r0 = true := by kernel_rfl
theorem crH18r1_run : crH18run 71 crH18r1 = true := by kernel_rfl
theorem crH18r2_run : crH18run 85 crH18r2 = true := by kernel_rfl
theorem crH18r3_run : crH18run 15 crH18r3 = true := by kernel_rfl
theorem crH18r4_run : crH18run 85 crH18r4 = true := by kernel_rfl
theorem crH18r5_run : crH18run 70 crH18r5 = true := by kernel_rfl
theorem crH18r6_run : crH18run 71 crH18r6 = true := by kernel_rfl
theorem crH18r7_run : crH18run 70 crH18r7 = true := by kernel_rfl
theorem crH18r8_run : crH18run 71 crH18r8 = true := by kernel_rfl
theorem crH18r9_run : crH18run 70 crH18r9 = true := by kernel_rfl
theorem crH18r10_run : crH18run 71 crH18r10 = true := by kernel_rfl
theorem crH18r11_run : crH18run 70 crH18r11 = true := by kernel_rfl
theorem crH18r12_run : crH18run 71 crH18r12 = true := by kernel_rfl
theorem crH18r13_run : crH18run 70 crH18r13 = true := by kernel_rfl
theorem crH18r14_run : crH18run 71 crH18r14 = true := by kernel_rfl
theorem crH18r15_run : crH18run 70 crH18r15 = true := by kernel_rfl
theorem crH18r16_run : crH18run 71 crH18r16 = true := by kernel_rfl
theorem crH18r17_run : crH18run 70 crH18r17 = true := by kernel_rfl
theorem crH18r18_run : crH18run 71 crH18r18 = true := by kernel_rfl
theorem crH18r19_run : crH18run 70 crH18r19 = true := by kernel_rfl
theorem crH18r20_run : crH18run 71 crH18r20 = true := by kernel_rfl
theorem crH18r21_run : crH18run 70 crH18r21 = true := by kernel_rfl
theorem crH18r22_run : crH18run 71 crH18r22 = true := by kernel_rfl
theorem crH18r23_run : crH18run 70 crH18r23 = true := by kernel_rfl
theorem crH18r24_run : crH18run 71 crH18r24 = true := by kernel_rfl
theorem crH18r25_run : crH18run 70 crH18r25 = true := by kernel_rfl
theorem crH18r26_run : crH18run 71 crH18r26 = true := by kernel_rfl
theorem crH18r27_run : crH18run 70 crH18r27 = true := by kernel_rfl
theorem crH18r28_run : crH18run 71 crH18r28 = true := by kernel_rfl
theorem crH18r29_run : crH18run 70 crH18r29 = true := by kernel_rfl
theorem crH18r30_run : crH18run 71 crH18r30 = true := by kernel_rfl
theorem crH18r31_run : crH18run 70 crH18r31 = true := by kernel_rfl
theorem crH18r32_run : crH18run 71 crH18r32 = true := by kernel_rfl
theorem crH18r33_run : crH18run 70 crH18r33 = true := by kernel_rfl
theorem crH18r34_run : crH18run 71 crH18r34 = true := by kernel_rfl
theorem crH18r35_run : crH18run 70 crH18r35 = true := by kernel_rfl
theorem crH18r36_run : crH18run 71 crH18r36 = true := by kernel_rfl
theorem crH18r37_run : crH18run 70 crH18r37 = true := by kernel_rfl
theorem crH18r38_run : crH18run 71 crH18r38 = true := by kernel_rfl
theorem crH18r39_run : crH18run 70 crH18r39 = true := by kernel_rfl
theorem crH18r40_run : crH18run 71 crH18r40 = true := by kernel_rfl
theorem crH18r41_run : crH18run 70 crH18r41 = true := by kernel_rfl
theorem crH18r42_run : crH18run 71 crH18r42 = true := by kernel_rfl
theorem crH18r43_run : crH18run 70 crH18r43 = true := by kernel_rfl
theorem crH18r44_run : crH18run 71 crH18r44 = true := by kernel_rfl
theorem crH18r45_run : crH18run 85 crH18r45 = true := by kernel_rfl
theorem crH18r46_run : crH18run 15 crH18r46 = true := by kernel_rfl
theorem crH18r47_run : crH18run 85 crH18r47 = true := by kernel_rfl
theorem crH18r48_run : crH18run 70 crH18r48 = true := by kernel_rfl
theorem crH18r49_run : crH18run 71 crH18r49 = true := by kernel_rfl
theorem crH18r50_run : crH18run 85 crH18r50 = true := by kernel_rfl
theorem crH18r51_run : crH18run 15 crH18r51 = true := by kernel_rfl
theorem crH18r52_run : crH18run 85 crH18r52 = true := by kernel_rfl
theorem crH18r53_run : crH18run 70 crH18r53 = true := by kernel_rfl
theorem crH18r54_run : crH18run 71 crH18r54 = true := by kernel_rfl
theorem crH18r55_run : crH18run 85 crH18r55 = true := by kernel_rfl
theorem crH18r56_run : crH18run 15 crH18r56 = true := by kernel_rfl
theorem crH18r57_run : crH18run 85 crH18r57 = true := by kernel_rfl
theorem crH18r58_run : crH18run 70 crH18r58 = true := by kernel_rfl
theorem crH18r59_run : crH18run 71 crH18r59 = true := by kernel_rfl
theorem crH18r60_run : crH18run 85 crH18r60 = true := by kernel_rfl
theorem crH18r61_run : crH18run 15 crH18r61 = true := by kernel_rfl
theorem crH18r62_run : crH18run 85 crH18r62 = true := by kernel_rfl
theorem crH18r63_run : crH18run 70 crH18r63 = true := by kernel_rfl
theorem crH18r64_run : crH18run 71 crH18r64 = true := by kernel_rfl
theorem crH18r65_run : crH18run 85 crH18r65 = true := by kernel_rfl
theorem crH18r66_run : crH18run 15 crH18r66 = true := by kernel_rfl
theorem crH18r67_run : crH18run 85 crH18r67 = true := by kernel_rfl
theorem crH18r68_run : crH18run 70 crH18r68 = true := by kernel_rfl
theorem crH18r69_run : crH18run 71 crH18r69 = true := by kernel_rfl
theorem crH18r70_run : crH18run 85 crH18r70 = true := by kernel_rfl
theorem crH18r71_run : crH18run 15 crH18r71 = true := by kernel_rfl
theorem crH18r72_run : crH18run 85 crH18r72 = true := by kernel_rfl
theorem crH18r73_run : crH18run 70 crH18r73 = true := by kernel_rfl
theorem crH18r74_run : crH18run 71 crH18r74 = true := by kernel_rfl
theorem crH18r75_run : crH18run 85 crH18r75 = true := by kernel_rfl
theorem crH18r76_run : crH18run 15 crH18r76 = true := by kernel_rfl
theorem crH18r77_run : crH18run 85 crH18r77 = true := by kernel_rfl
theorem crH18r78_run : crH18run 70 crH18r78 = true := by kernel_rfl
theorem crH18r79_run : crH18run 71 crH18r79 = true := by kernel_rfl
theorem crH18r80_run : crH18run 85 crH18r80 = true := by kernel_rfl
theorem crH18r81_run : crH18run 15 crH18r81 = true := by kernel_rfl
theorem crH18r82_run : crH18run 85 crH18r82 = true := by kernel_rfl
theorem crH18r83_run : crH18run 70 crH18r83 = true := by kernel_rfl
theorem crH18r84_run : crH18run 71 crH18r84 = true := by kernel_rfl
theorem crH18r85_run : crH18run 85 crH18r85 = true := by kernel_rfl
theorem crH18r86_run : crH18run 15 crH18r86 = true := by kernel_rfl
theorem crH18r87_run : crH18run 85 crH18r87 = true := by kernel_rfl
theorem crH18r88_run : crH18run 70 crH18r88 = true := by kernel_rfl
theorem crH18r89_run : crH18run 71 crH18r89 = true := by kernel_rfl
theorem crH18r90_run : crH18run 85 crH18r90 = true := by kernel_rfl
theorem crH18r91_run : crH18run 15 crH18r91 = true := by kernel_rfl
theorem crH18r92_run : crH18run 85 crH18r92 = true := by kernel_rfl
theorem crH18r93_run : crH18run 70 crH18r93 = true := by kernel_rfl
theorem crH18r94_run : crH18run 71 crH18r94 = true := by kernel_rfl
theorem crH18r95_run : crH18run 85 crH18r95 = true := by kernel_rfl
theorem crH18r96_run : crH18run 15 crH18r96 = true := by kernel_rfl
theorem crH18r97_run : crH18run 85 crH18r97 = true := by kernel_rfl
theorem crH18r98_run : crH18run 70 crH18r98 = true := by kernel_rfl
theorem crH18r99_run : crH18run 71 crH18r99 = true := by kernel_rfl
theorem crH18r100_run : crH18run 85 crH18r100 = true := by kernel_rfl
theorem crH18r101_run : crH18run 15 crH18r101 = true := by kernel_rfl
theorem crH18r102_run : crH18run 85 crH18r102 = true := by kernel_rfl
theorem crH18r103_run : crH18run 70 crH18r103 = true := by kernel_rfl
theorem crH18r104_run : crH18run 71 crH18r104 = true := by kernel_rfl
theorem crH18r105_run : crH18run 85 crH18r105 = true := by kernel_rfl
theorem crH18r106_run : crH18run 15 crH18r106 = true := by kernel_rfl
theorem crH18r107_run : crH18run 85 crH18r107 = true := by kernel_rfl
theorem crH18r108_run : crH18run 70 crH18r108 = true := by kernel_rfl
theorem crH18r109_run : crH18run 71 crH18r109 = true := by kernel_rfl
theorem crH18r110_run : crH18run 85 crH18r110 = true := by kernel_rfl
theorem crH18r111_run : crH18run 15 crH18r111 = true := by kernel_rfl
theorem crH18r112_run : crH18run 85 crH18r112 = true := by kernel_rfl
theorem crH18r113_run : crH18run 70 crH18r113 = true := by kernel_rfl
theorem crH18r114_run : crH18run 71 crH18r114 = true := by kernel_rfl
theorem crH18r115_run : crH18run 85 crH18r115 = true := by kernel_rfl
theorem crH18r116_run : crH18run 15 crH18r116 = true := by kernel_rfl
theorem crH18r117_run : crH18run 85 crH18r117 = true := by kernel_rfl
theorem crH18r118_run : crH18run 70 crH18r118 = true := by kernel_rfl
theorem crH18r119_run : crH18run 71 crH18r119 = true := by kernel_rfl
theorem crH18r120_run : crH18run 85 crH18r120 = true := by kernel_rfl
theorem crH18r121_run : crH18run 15 crH18r121 = true := by kernel_rfl
theorem crH18r122_run : crH18run 85 crH18r122 = true := by kernel_rfl
theorem crH18r123_run : crH18run 70 crH18r123 = true := by kernel_rfl
theorem crH18r124_run : crH18run 71 crH18r124 = true := by kernel_rfl
theorem crH18r125_run : crH18run 85 crH18r125 = true := by kernel_rfl
theorem crH18r126_run : crH18run 15 crH18r126 = true := by kernel_rfl
theorem crH18r127_run : crH18run 85 crH18r127 = true := by kernel_rfl
theorem crH18r128_run : crH18run 70 crH18r128 = true := by kernel_rfl
theorem crH18r129_run : crH18run 71 crH18r129 = true := by kernel_rfl
theorem crH18r130_run : crH18run 85 crH18r130 = true := by kernel_rfl
theorem crH18r131_run : crH18run 15 crH18r131 = true := by kernel_rfl
theorem crH18r132_run : crH18run 85 crH18r132 = true := by kernel_rfl
theorem crH18r133_run : crH18run 70 crH18r133 = true := by kernel_rfl
theorem crH18r134_run : crH18run 71 crH18r134 = true := by kernel_rfl
theorem crH18r135_run : crH18run 85 crH18r135 = true := by kernel_rfl
theorem crH18r136_run : crH18run 15 crH18r136 = true := by kernel_rfl
theorem crH18r137_run : crH18run 85 crH18r137 = true := by kernel_rfl
theorem crH18r138_run : crH18run 70 crH18r138 = true := by kernel_rfl
theorem crH18r139_run : crH18run 71 crH18r139 = true := by kernel_rfl
theorem crH18r140_run : crH18run 15 crH18r140 = true := by kernel_rfl
theorem crH18r141_run : crH18run 85 crH18r141 = true := by kernel_rfl
theorem crH18r142_run : crH18run 85 crH18r142 = true := by kernel_rfl
theorem crH18r143_run : crH18run 85 crH18r143 = true := by kernel_rfl
theorem crH18r144_run : crH18run 85 crH18r144 = true := by kernel_rfl
theorem crH18r145_run : crH18run 85 crH18r145 = true := by kernel_rfl
theorem crH18r146_run : crH18run 85 crH18r146 = true := by kernel_rfl
theorem crH18r147_run : crH18run 85 crH18r147 = true := by kernel_rfl
theorem crH18r148_run : crH18run 85 crH18r148 = true := by kernel_rfl
theorem crH18r149_run : crH18run 85 crH18r149 = true := by kernel_rfl
theorem crH18r150_run : crH18run 85 crH18r150 = true := by kernel_rfl
theorem crH18r151_run : crH18run 85 crH18r151 = true := by kernel_rfl
theorem crH18r152_run : crH18run 85 crH18r152 = true := by kernel_rfl
theorem crH18r153_run : crH18run 85 crH18r153 = true := by kernel_rfl
theorem crH18r154_run : crH18run 85 crH18r154 = true := by kernel_rfl
theorem crH18r155_run : crH18run 85 crH18r155 = true := by kernel_rfl
theorem crH18r156_run : crH18run 85 crH18r156 = true := by kernel_rfl
theorem crH18r157_run : crH18run 85 crH18r157 = true := by kernel_rfl
theorem crH18r158_run : crH18run 85 crH18r158 = true := by kernel_rfl
theorem crH18r159_run : crH18run 85 crH18r159 = true := by kernel_rfl
theorem crH18r160_run : crH18run 85 crH18r160 = true := by kernel_rfl
theorem crH18r161_run : crH18run 85 crH18r161 = true := by kernel_rfl
theorem crH18r162_run : crH18run 85 crH18r162 = true := by kernel_rfl
theorem crH18r163_run : crH18run 85 crH18r163 = true := by kernel_rfl
theorem crH18r164_run : crH18run 85 crH18r164 = true := by kernel_rfl
theorem crH18r165_run : crH18run 85 crH18r165 = true := by kernel_rfl
theorem crH18r166_run : crH18run 85 crH18r166 = true := by kernel_rfl
theorem crH18r167_run : crH18run 85 crH18r167 = true := by kernel_rfl
theorem crH18r168_run : crH18run 85 crH18r168 = true := by kernel_rfl
theorem crH18r169_run : crH18run 85 crH18r169 = true := by kernel_rfl
theorem crH18r170_run : crH18run 85 crH18r170 = true := by kernel_rfl
theorem crH18r171_run : crH18run 85 crH18r171 = true := by kernel_rfl
theorem crH18r172_run : crH18run 85 crH18r172 = true := by kernel_rfl
theorem crH18r173_run : crH18run 85 crH18r173 = true := by kernel_rfl
theorem crH18r174_run : crH18run 85 crH18r174 = true := by kernel_rfl
theorem crH18r175_run : crH18run 85 crH18r175 = true := by kernel_rfl
theorem crH18r176_run : crH18run 85 crH18r176 = true := by kernel_rfl
theorem crH18r177_run : crH18run 85 crH18r177 = true := by kernel_rfl
theorem crH18r178_run : crH18run 85 crH18r178 = true := by kernel_rfl
theorem crH18r179_run : crH18run 85 crH18r179 = true := by kernel_rfl
theorem crH18r180_run : crH18run 85 crH18r180 = true := by kernel_rfl
theorem crH18r181_run : crH18run 15 crH18r181 = true := by kernel_rfl
theorem crH18r182_run : crH18run 15 crH18r182 = true := by kernel_rfl
end Go.Proofs.YtcgdnhkibjldjaaGreatDoor
