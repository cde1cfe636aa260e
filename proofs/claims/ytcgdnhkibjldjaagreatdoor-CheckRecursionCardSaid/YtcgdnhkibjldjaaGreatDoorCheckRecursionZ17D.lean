/- Part of the proof that the law CheckRecursion answers true: calls within the longest evaluations. No condition. -/
import Derived.Test.YtcgdnhkibjldjaaGreatDoorCheckRecursionD
namespace Go.Proofs.YtcgdnhkibjldjaaGreatDoor
open Go Go.Sh
def crH17b0 : List (Nat × Nat × List SV) := [(163, 9, [.str 1 103, .str 1 104]), (236, 115, [.str 4 811678310, .int .i64 (0), .str 4 828455526, .int .i64 (0), .str 4 845232742, .int .i64 (0), .str 4 862009958, .int .i64 (0), .str 4 878787174, .int .i64 (0), .str 4 895564390, .int .i64 (0), .str 4 912341606, .int .i64 (0), .str 4 929118822, .int .i64 (0), .str 4 945896038, .int .i64 (0), .str 4 962673254, .int .i64 (0), .str 5 206986885734, .int .i64 (0), .str 5 211281853030, .int .i64 (0), .str 5 215576820326, .int .i64 (0), .str 5 219871787622, .int .i64 (0), .str 5 224166754918, .int .i64 (0), .str 5 228461722214, .int .i64 (0), .str 5 232756689510, .int .i64 (0), .str 5 237051656806, .int .i64 (0)])]
def crH17b1 : List (Nat × Nat × List SV) := [(280, 49, [.nils, .nils])]
def crH17b2 : List (Nat × Nat × List SV) := [(157, 9, [.str 2 12404, .str 2 12660, .str 2 12916, .str 2 13172, .str 2 13428, .str 2 13684, .str 2 13940, .str 2 14196, .str 2 14452, .str 2 14708, .str 3 3158388, .str 3 3223924, .str 3 3289460, .str 3 3354996, .str 3 3420532, .str 3 3486068, .str 3 3551604, .str 3 3617140])]
def crH17b3 : List (Nat × Nat × List SV) := [(284, 49, [.nils, .nils])]
def crH17b4 : List (Nat × Nat × List SV) := [(280, 9, [.str 1 103, .str 1 104]), (236, 115, [.str 4 811678310, .int .i64 (0), .str 4 828455526, .int .i64 (0), .str 4 845232742, .int .i64 (0), .str 4 862009958, .int .i64 (0), .str 4 878787174, .int .i64 (0), .str 4 895564390, .int .i64 (0), .str 4 912341606, .int .i64 (0), .str 4 929118822, .int .i64 (0), .str 4 945896038, .int .i64 (0), .str 4 962673254, .int .i64 (0), .str 5 206986885734, .int .i64 (0), .str 5 211281853030, .int .i64 (0), .str 5 215576820326, .int .i64 (0), .str 5 219871787622, .int .i64 (0), .str 5 224166754918, .int .i64 (0), .str 5 228461722214, .int .i64 (0), .str 5 232756689510, .int .i64 (0), .str 5 237051656806, .int .i64 (0)])]
def crH17b5 : List (Nat × Nat × List SV) := [(281, 9, [.str 1 103, .str 1 104]), (236, 115, [.str 4 811678310, .int .i64 (0), .str 4 828455526, .int .i64 (0), .str 4 845232742, .int .i64 (0), .str 4 862009958, .int .i64 (0), .str 4 878787174, .int .i64 (0), .str 4 895564390, .int .i64 (0), .str 4 912341606, .int .i64 (0), .str 4 929118822, .int .i64 (0), .str 4 945896038, .int .i64 (0), .str 4 962673254, .int .i64 (0), .str 5 206986885734, .int .i64 (0), .str 5 211281853030, .int .i64 (0), .str 5 215576820326, .int .i64 (0), .str 5 219871787622, .int .i64 (0), .str 5 224166754918, .int .i64 (0), .str 5 228461722214, .int .i64 (0), .str 5 232756689510, .int .i64 (0), .str 5 237051656806, .int .i64 (0)])]
def crH17b6 : List (Nat × Nat × List SV) := [(282, 9, [.str 1 103, .str 1 104]), (236, 115, [.str 4 811678310, .int .i64 (0), .str 4 828455526, .int .i64 (0), .str 4 845232742, .int .i64 (0), .str 4 862009958, .int .i64 (0), .str 4 878787174, .int .i64 (0), .str 4 895564390, .int .i64 (0), .str 4 912341606, .int .i64 (0), .str 4 929118822, .int .i64 (0), .str 4 945896038, .int .i64 (0), .str 4 962673254, .int .i64 (0), .str 5 206986885734, .int .i64 (0), .str 5 211281853030, .int .i64 (0), .str 5 215576820326, .int .i64 (0), .str 5 219871787622, .int .i64 (0), .str 5 224166754918, .int .i64 (0), .str 5 228461722214, .int .i64 (0), .str 5 232756689510, .int .i64 (0), .str 5 237051656806, .int .i64 (0)])]
def crH17b7 : List (Nat × Nat × List SV) := [(283, 9, [.str 1 103, .str 1 104]), (236, 115, [.str 4 811678310, .int .i64 (0), .str 4 828455526, .int .i64 (0), .str 4 845232742, .int .i64 (0), .str 4 862009958, .int .i64 (0), .str 4 878787174, .int .i64 (0), .str 4 895564390, .int .i64 (0), .str 4 912341606, .int .i64 (0), .str 4 929118822, .int .i64 (0), .str 4 945896038, .int .i64 (0), .str 4 962673254, .int .i64 (0), .str 5 206986885734, .int .i64 (0), .str 5 211281853030, .int .i64 (0), .str 5 215576820326, .int .i64 (0), .str 5 219871787622, .int .i64 (0), .str 5 224166754918, .int .i64 (0), .str 5 228461722214, .int .i64 (0), .str 5 232756689510, .int .i64 (0), .str 5 237051656806, .int .i64 (0)])]
def crH17b8 : List (Nat × Nat × List SV) := [(284, 9, [.str 1 103, .str 1 104]), (236, 115, [.str 4 811678310, .int .i64 (0), .str 4 828455526, .int .i64 (0), .str 4 845232742, .int .i64 (0), .str 4 862009958, .int .i64 (0), .str 4 878787174, .int .i64 (0), .str 4 895564390, .int .i64 (0), .str 4 912341606, .int .i64 (0), .str 4 929118822, .int .i64 (0), .str 4 945896038, .int .i64 (0), .str 4 962673254, .int .i64 (0), .str 5 206986885734, .int .i64 (0), .str 5 211281853030, .int .i64 (0), .str 5 215576820326, .int .i64 (0), .str 5 219871787622, .int .i64 (0), .str 5 224166754918, .int .i64 (0), .str 5 228461722214, .int .i64 (0), .str 5 232756689510, .int .i64 (0), .str 5 237051656806, .int .i64 (0)])]
def crH17b9 : List (Nat × Nat × List SV) := [(285, 9, [.str 1 103, .str 1 104]), (236, 115, [.str 4 811678310, .int .i64 (0), .str 4 828455526, .int .i64 (0), .str 4 845232742, .int .i64 (0), .str 4 862009958, .int .i64 (0), .str 4 878787174, .int .i64 (0), .str 4 895564390, .int .i64 (0), .str 4 912341606, .int .i64 (0), .str 4 929118822, .int .i64 (0), .str 4 945896038, .int .i64 (0), .str 4 962673254, .int .i64 (0), .str 5 206986885734, .int .i64 (0), .str 5 211281853030, .int .i64 (0), .str 5 215576820326, .int .i64 (0), .str 5 219871787622, .int .i64 (0), .str 5 224166754918, .int .i64 (0), .str 5 228461722214, .int .i64 (0), .str 5 232756689510, .int .i64 (0), .str 5 237051656806, .int .i64 (0)])]
def crH17b10 : List (Nat × Nat × List SV) := [(286, 9, [.str 1 103, .str 1 104]), (236, 115, [.str 4 811678310, .int .i64 (0), .str 4 828455526, .int .i64 (0), .str 4 845232742, .int .i64 (0), .str 4 862009958, .int .i64 (0), .str 4 878787174, .int .i64 (0), .str 4 895564390, .int .i64 (0), .str 4 912341606, .int .i64 (0), .str 4 929118822, .int .i64 (0), .str 4 945896038, .int .i64 (0), .str 4 962673254, .int .i64 (0), .str 5 206986885734, .int .i64 (0), .str 5 211281853030, .int .i64 (0), .str 5 215576820326, .int .i64 (0), .str 5 219871787622, .int .i64 (0), .str 5 224166754918, .int .i64 (0), .str 5 228461722214, .int .i64 (0), .str 5 232756689510, .int .i64 (0), .str 5 237051656806, .int .i64 (0)])]
def crH17b11 : List (Nat × Nat × List SV) := [(287, 9, [.str 1 103, .str 1 104]), (236, 115, [.str 4 811678310, .int .i64 (0), .str 4 828455526, .int .i64 (0), .str 4 845232742, .int .i64 (0), .str 4 862009958, .int .i64 (0), .str 4 878787174, .int .i64 (0), .str 4 895564390, .int .i64 (0), .str 4 912341606, .int .i64 (0), .str 4 929118822, .int .i64 (0), .str 4 945896038, .int .i64 (0), .str 4 962673254, .int .i64 (0), .str 5 206986885734, .int .i64 (0), .str 5 211281853030, .int .i64 (0), .str 5 215576820326, .int .i64 (0), .str 5 219871787622, .int .i64 (0), .str 5 224166754918, .int .i64 (0), .str 5 228461722214, .int .i64 (0), .str 5 232756689510, .int .i64 (0), .str 5 237051656806, .int .i64 (0)])]
def crH17b12 : List (Nat × Nat × List SV) := [(288, 9, [.str 1 103, .str 1 104]), (236, 115, [.str 4 811678310, .int .i64 (0), .str 4 828455526, .int .i64 (0), .str 4 845232742, .int .i64 (0), .str 4 862009958, .int .i64 (0), .str 4 878787174, .int .i64 (0), .str 4 895564390, .int .i64 (0), .str 4 912341606, .int .i64 (0), .str 4 929118822, .int .i64 (0), .str 4 945896038, .int .i64 (0), .str 4 962673254, .int .i64 (0), .str 5 206986885734, .int .i64 (0), .str 5 211281853030, .int .i64 (0), .str 5 215576820326, .int .i64 (0), .str 5 219871787622, .int .i64 (0), .str 5 224166754918, .int .i64 (0), .str 5 228461722214, .int .i64 (0), .str 5 232756689510, .int .i64 (0), .str 5 237051656806, .int .i64 (0)])]
def crH17b13 : List (Nat × Nat × List SV) := [(289, 9, [.str 1 103, .str 1 104]), (236, 115, [.str 4 811678310, .int .i64 (0), .str 4 828455526, .int .i64 (0), .str 4 845232742, .int .i64 (0), .str 4 862009958, .int .i64 (0), .str 4 878787174, .int .i64 (0), .str 4 895564390, .int .i64 (0), .str 4 912341606, .int .i64 (0), .str 4 929118822, .int .i64 (0), .str 4 945896038, .int .i64 (0), .str 4 962673254, .int .i64 (0), .str 5 206986885734, .int .i64 (0), .str 5 211281853030, .int .i64 (0), .str 5 215576820326, .int .i64 (0), .str 5 219871787622, .int .i64 (0), .str 5 224166754918, .int .i64 (0), .str 5 228461722214, .int .i64 (0), .str 5 232756689510, .int .i64 (0), .str 5 237051656806, .int .i64 (0)])]
def crH17b14 : List (Nat × Nat × List SV) := [(290, 9, [.str 1 103, .str 1 104]), (236, 115, [.str 4 811678310, .int .i64 (0), .str 4 828455526, .int .i64 (0), .str 4 845232742, .int .i64 (0), .str 4 862009958, .int .i64 (0), .str 4 878787174, .int .i64 (0), .str 4 895564390, .int .i64 (0), .str 4 912341606, .int .i64 (0), .str 4 929118822, .int .i64 (0), .str 4 945896038, .int .i64 (0), .str 4 962673254, .int .i64 (0), .str 5 206986885734, .int .i64 (0), .str 5 211281853030, .int .i64 (0), .str 5 215576820326, .int .i64 (0), .str 5 219871787622, .int .i64 (0), .str 5 224166754918, .int .i64 (0), .str 5 228461722214, .int .i64 (0), .str 5 232756689510, .int .i64 (0), .str 5 237051656806, .int .i64 (0)])]
def crH17b15 : List (Nat × Nat × List SV) := [(291, 9, [.str 1 103, .str 1 104]), (236, 115, [.str 4 811678310, .int .i64 (0), .str 4 828455526, .int .i64 (0), .str 4 845232742, .int .i64 (0), .str 4 862009958, .int .i64 (0), .str 4 878787174, .int .i64 (0), .str 4 895564390, .int .i64 (0), .str 4 912341606, .int .i64 (0), .str 4 929118822, .int .i64 (0), .str 4 945896038, .int .i64 (0), .str 4 962673254, .int .i64 (0), .str 5 206986885734, .int .i64 (0), .str 5 211281853030, .int .i64 (0), .str 5 215576820326, .int .i64 (0), .str 5 219871787622, .int .i64 (0), .str 5 224166754918, .int .i64 (0), .str 5 228461722214, .int .i64 (0), .str 5 232756689510, .int .i64 (0), .str 5 237051656806, .int .i64 (0)])]
def crH17b16 : List (Nat × Nat × List SV) := [(292, 9, [.str 1 103, .str 1 104]), (236, 115, [.str 4 811678310, .int .i64 (0), .str 4 828455526, .int .i64 (0), .str 4 845232742, .int .i64 (0), .str 4 862009958, .int .i64 (0), .str 4 878787174, .int .i64 (0), .str 4 895564390, .int .i64 (0), .str 4 912341606, .int .i64 (0), .str 4 929118822, .int .i64 (0), .str 4 945896038, .int .i64 (0), .str 4 962673254, .int .i64 (0), .str 5 206986885734, .int .i64 (0), .str 5 211281853030, .int .i64 (0), .str 5 215576820326, .int .i64 (0), .str 5 219871787622, .int .i64 (0), .str 5 224166754918, .int .i64 (0), .str 5 228461722214, .int .i64 (0), .str 5 232756689510, .int .i64 (0), .str 5 237051656806, .int .i64 (0)])]
def crH17b17 : List (Nat × Nat × List SV) := [(293, 9, [.str 1 103, .str 1 104]), (236, 115, [.str 4 811678310, .int .i64 (0), .str 4 828455526, .int .i64 (0), .str 4 845232742, .int .i64 (0), .str 4 862009958, .int .i64 (0), .str 4 878787174, .int .i64 (0), .str 4 895564390, .int .i64 (0), .str 4 912341606, .int .i64 (0), .str 4 929118822, .int .i64 (0), .str 4 945896038, .int .i64 (0), .str 4 962673254, .int .i64 (0), .str 5 206986885734, .int .i64 (0), .str 5 211281853030, .int .i64 (0), .str 5 215576820326, .int .i64 (0), .str 5 219871787622, .int .i64 (0), .str 5 224166754918, .int .i64 (0), .str 5 228461722214, .int .i64 (0), .str 5 232756689510, .int .i64 (0), .str 5 237051656806, .int .i64 (0)])]
def crH17b18 : List (Nat × Nat × List SV) := [(294, 9, [.str 1 103, .str 1 104]), (236, 115, [.str 4 811678310, .int .i64 (0), .str 4 828455526, .int .i64 (0), .str 4 845232742, .int .i64 (0), .str 4 862009958, .int .i64 (0), .str 4 878787174, .int .i64 (0), .str 4 895564390, .int .i64 (0), .str 4 912341606, .int .i64 (0), .str 4 929118822, .int .i64 (0), .str 4 945896038, .int .i64 (0), .str 4 962673254, .int .i64 (0), .str 5 206986885734, .int .i64 (0), .str 5 211281853030, .int .i64 (0), .str 5 215576820326, .int .i64 (0), .str 5 219871787622, .int .i64 (0), .str 5 224166754918, .int .i64 (0), .str 5 228461722214, .int .i64 (0), .str 5 232756689510, .int .i64 (0), .str 5 237051656806, .int .i64 (0)])]
def crH17b19 : List (Nat × Nat × List SV) := [(295, 9, [.str 1 103, .str 1 104]), (236, 115, [.str 4 811678310, .int .i64 (0), .str 4 828455526, .int .i64 (0), .str 4 845232742, .int .i64 (0), .str 4 862009958, .int .i64 (0), .str 4 878787174, .int .i64 (0), .str 4 895564390, .int .i64 (0), .str 4 912341606, .int .i64 (0), .str 4 929118822, .int .i64 (0), .str 4 945896038, .int .i64 (0), .str 4 962673254, .int .i64 (0), .str 5 206986885734, .int .i64 (0), .str 5 211281853030, .int .i64 (0), .str 5 215576820326, .int .i64 (0), .str 5 219871787622, .int .i64 (0), .str 5 224166754918, .int .i64 (0), .str 5 228461722214, .int .i64 (0), .str 5 232756689510, .int .i64 (0), .str 5 237051656806, .int .i64 (0)])]
def crH17b20 : List (Nat × Nat × List SV) := [(296, 9, [.str 1 103, .str 1 104]), (236, 115, [.str 4 811678310, .int .i64 (0), .str 4 828455526, .int .i64 (0), .str 4 845232742, .int .i64 (0), .str 4 862009958, .int .i64 (0), .str 4 878787174, .int .i64 (0), .str 4 895564390, .int .i64 (0), .str 4 912341606, .int .i64 (0), .str 4 929118822, .int .i64 (0), .str 4 945896038, .int .i64 (0), .str 4 962673254, .int .i64 (0), .str 5 206986885734, .int .i64 (0), .str 5 211281853030, .int .i64 (0), .str 5 215576820326, .int .i64 (0), .str 5 219871787622, .int .i64 (0), .str 5 224166754918, .int .i64 (0), .str 5 228461722214, .int .i64 (0), .str 5 232756689510, .int .i64 (0), .str 5 237051656806, .int .i64 (0)])]
def crH17b21 : List (Nat × Nat × List SV) := [(297, 9, [.str 1 103, .str 1 104]), (236, 115, [.str 4 811678310, .int .i64 (0), .str 4 828455526, .int .i64 (0), .str 4 845232742, .int .i64 (0), .str 4 862009958, .int .i64 (0), .str 4 878787174, .int .i64 (0), .str 4 895564390, .int .i64 (0), .str 4 912341606, .int .i64 (0), .str 4 929118822, .int .i64 (0), .str 4 945896038, .int .i64 (0), .str 4 962673254, .int .i64 (0), .str 5 206986885734, .int .i64 (0), .str 5 211281853030, .int .i64 (0), .str 5 215576820326, .int .i64 (0), .str 5 219871787622, .int .i64 (0), .str 5 224166754918, .int .i64 (0), .str 5 228461722214, .int .i64 (0), .str 5 232756689510, .int .i64 (0), .str 5 237051656806, .int .i64 (0)])]
def crH17b22 : List (Nat × Nat × List SV) := [(300, 49, [.nils, .nils])]
def crH17b23 : List (Nat × Nat × List SV) := [(304, 49, [.nils, .nils])]
def crH17b24 : List (Nat × Nat × List SV) := [(301, 49, [.nils, .nils])]
def crH17b25 : List (Nat × Nat × List SV) := [(305, 49, [.nils, .nils])]
def crH17b26 : List (Nat × Nat × List SV) := [(302, 49, [.nils, .nils])]
def crH17b27 : List (Nat × Nat × List SV) := [(306, 49, [.nils, .nils])]
def crH17b28 : List (Nat × Nat × List SV) := [(303, 49, [.nils, .nils])]
def crH17b29 : List (Nat × Nat × List SV) := [(307, 49, [.nils, .nils])]
def crH17b30 : List (Nat × Nat × List SV) := [(308, 49, [.nils, .nils])]
def crH17b31 : List (Nat × Nat × List SV) := [(309, 49, [.nils, .nils])]
def crH17b32 : List (Nat × Nat × List SV) := [(310, 49, [.nils, .nils])]
def crH17b33 : List (Nat × Nat × List SV) := [(311, 49, [.nils, .nils])]
def crH17b34 : List (Nat × Nat × List SV) := [(312, 49, [.nils, .nils])]
def crH17b35 : List (Nat × Nat × List SV) := [(313, 49, [.nils, .nils])]
def crH17b36 : List (Nat × Nat × List SV) := [(314, 49, [.nils, .nils])]
def crH17b37 : List (Nat × Nat × List SV) := [(315, 49, [.nils, .nils])]
def crH17b38 : List (Nat × Nat × List SV) := [(316, 49, [.nils, .nils])]
def crH17b39 : List (Nat × Nat × List SV) := [(317, 49, [.nils, .nils])]
def crH17b40 : List (Nat × Nat × List SV) := [(318, 49, [.nils, .nils])]
def crH17b41 : List (Nat × Nat × List SV) := [(319, 49, [.nils, .nils])]
def crH17b42 : List (Nat × Nat × List SV) := [(320, 49, [.nils, .nils])]
def crH17b43 : List (Nat × Nat × List SV) := [(321, 49, [.nils, .nils])]
def crH17b44 : List (Nat × Nat × List SV) := [(770, 49, [.nils, .nils])]
def crH17b45 : List (Nat × Nat × List SV) := [(777, 49, [.nils, .nils])]
def crH17b46 : List (Nat × Nat × List SV) := [(785, 49, [.nils, .nils])]
def crH17b47 : List (Nat × Nat × List SV) := [(794, 49, [.nils, .nils])]
def crH17b48 : List (Nat × Nat × List SV) := [(804, 49, [.nils, .nils])]
def crH17b49 : List (Nat × Nat × List SV) := [(815, 49, [.nils, .nils])]
def crH17b50 : List (Nat × Nat × List SV) := [(827, 49, [.nils, .nils])]
def crH17b51 : List (Nat × Nat × List SV) := [(840, 49, [.nils, .nils])]
def crH17b52 : List (Nat × Nat × List SV) := [(854, 49, [.nils, .nils])]
def crH17b53 : List (Nat × Nat × List SV) := [(869, 49, [.nils, .nils])]
def crH17b54 : List (Nat × Nat × List SV) := [(885, 49, [.nils, .nils])]
def crH17b55 : List (Nat × Nat × List SV) := [(902, 49, [.nils, .nils])]
def crH17b56 : List (Nat × Nat × List SV) := [(920, 49, [.nils, .nils])]
def crH17b57 : List (Nat × Nat × List SV) := [(939, 49, [.nils, .nils])]
def crH17b58 : List (Nat × Nat × List SV) := [(959, 49, [.nils, .nils])]
def crH17b59 : List (Nat × Nat × List SV) := [(980, 49, [.nils, .nils])]
def crH17b60 : List (Nat × Nat × List SV) := [(1002, 49, [.nils, .nils])]
def crH17b61 : List (Nat × Nat × List SV) := [(1025, 49, [.nils, .nils])]
def crH17b62 : List (Nat × Nat × List SV) := [(1049, 49, [.nils, .nils])]
def crH17b63 : List (Nat × Nat × List SV) := [(1054, 49, [.nils, .nils])]
def crH17b64 : List (Nat × Nat × List SV) := [(1494, 49, [.nils, .nils])]
def crH17b65 : List (Nat × Nat × List SV) := [(1503, 49, [.nils, .nils])]
def crH17b66 : List (Nat × Nat × List SV) := [(1513, 49, [.nils, .nils])]
def crH17b67 : List (Nat × Nat × List SV) := [(1524, 49, [.nils, .nils])]
def crH17b68 : List (Nat × Nat × List SV) := [(1536, 49, [.nils, .nils])]
def crH17b69 : List (Nat × Nat × List SV) := [(1549, 49, [.nils, .nils])]
def crH17b70 : List (Nat × Nat × List SV) := [(1563, 49, [.nils, .nils])]
def crH17b71 : List (Nat × Nat × List SV) := [(1578, 49, [.nils, .nils])]
def crH17b72 : List (Nat × Nat × List SV) := [(1594, 49, [.nils, .nils])]
def crH17b73 : List (Nat × Nat × List SV) := [(1611, 49, [.nils, .nils])]
def crH17b74 : List (Nat × Nat × List SV) := [(1629, 49, [.nils, .nils])]
def crH17b75 : List (Nat × Nat × List SV) := [(1648, 49, [.nils, .nils])]
def crH17b76 : List (Nat × Nat × List SV) := [(1668, 49, [.nils, .nils])]
def crH17b77 : List (Nat × Nat × List SV) := [(1689, 49, [.nils, .nils])]
def crH17b78 : List (Nat × Nat × List SV) := [(1711, 49, [.nils, .nils])]
def crH17b79 : List (Nat × Nat × List SV) := [(1734, 49, [.nils, .nils])]
def crH17b80 : List (Nat × Nat × List SV) := [(1758, 49, [.nils, .nils])]
def crH17b81 : List (Nat × Nat × List SV) := [(1783, 49, [.nils, .nils])]
def crH17b82 : List (Nat × Nat × List SV) := [(1795, 9, [.str 1 103])]
def crH17r0 : KRow := ⟨279, [.agg [.int .i64 (19), .str 0 0, .str 4 811678310, .int .i64 (0), .int .i64 (0), .str 0 0, .int .i64 (0), .int .i64 (0), .str 0 0, .int .i64 (0), .int .i64 (0), .int .i64 (0), .str 0 0, .str 0 0, .nils, .nils], .slo 163 0 2 1, .slo 236 0 18 2], crH17b0, .int .i64 (0), none⟩
def crH17r1 : KRow := ⟨279, [.ptr 101 0, .agg [.int .i64 (19), .str 0 0, .str 4 811678310, .int .i64 (0), .int .i64 (0), .str 0 0, .int .i64 (0), .int .i64 (0), .str 0 0, .int .i64 (0), .int .i64 (0), .int .i64 (0), .str 0 0, .str 0 0, .nils, .nils]], [], .bool true, none⟩
def crH17r2 : KRow := ⟨281, [.slc 280 0 2 2], crH17b1, .nils, none⟩
def crH17r3 : KRow := ⟨283, [.slo 157 0 18 1, .str 2 12404], crH17b2, .bool true, none⟩
def crH17r4 : KRow := ⟨285, [.slc 284 0 2 2], crH17b3, .nils, none⟩
def crH17r5 : KRow := ⟨287, [.agg [.int .i64 (1), .str 0 0, .str 1 103, .int .i64 (0), .int .i64 (0), .str 0 0, .int .i64 (0), .int .i64 (0), .str 0 0, .int .i64 (0), .int .i64 (0), .int .i64 (0), .str 0 0, .str 0 0, .nils, .nils], .slo 163 0 2 1, .slo 236 0 18 2], crH17b0, .int .i64 (0), none⟩
def crH17r6 : KRow := ⟨287, [.ptr 101 0, .agg [.int .i64 (1), .str 0 0, .str 1 103, .int .i64 (0), .int .i64 (0), .str 0 0, .int .i64 (0), .int .i64 (0), .str 0 0, .int .i64 (0), .int .i64 (0), .int .i64 (0), .str 0 0, .str 0 0, .nils, .nils]], [], .bool true, none⟩
def crH17r7 : KRow := ⟨283, [.agg [.int .i64 (19), .str 0 0, .str 4 828455526, .int .i64 (0), .int .i64 (0), .str 0 0, .int .i64 (0), .int .i64 (0), .str 0 0, .int .i64 (0), .int .i64 (0), .int .i64 (0), .str 0 0, .str 0 0, .nils, .nils], .slo 280 0 2 1, .slo 236 0 18 2], crH17b4, .int .i64 (0), none⟩
def crH17r8 : KRow := ⟨283, [.ptr 101 0, .agg [.int .i64 (19), .str 0 0, .str 4 828455526, .int .i64 (0), .int .i64 (0), .str 0 0, .int .i64 (0), .int .i64 (0), .str 0 0, .int .i64 (0), .int .i64 (0), .int .i64 (0), .str 0 0, .str 0 0, .nils, .nils]], [], .bool true, none⟩
def crH17r9 : KRow := ⟨284, [.agg [.int .i64 (19), .str 0 0, .str 4 845232742, .int .i64 (0), .int .i64 (0), .str 0 0, .int .i64 (0), .int .i64 (0), .str 0 0, .int .i64 (0), .int .i64 (0), .int .i64 (0), .str 0 0, .str 0 0, .nils, .nils], .slo 281 0 2 1, .slo 236 0 18 2], crH17b5, .int .i64 (0), none⟩
def crH17r10 : KRow := ⟨284, [.ptr 101 0, .agg [.int .i64 (19), .str 0 0, .str 4 845232742, .int .i64 (0), .int .i64 (0), .str 0 0, .int .i64 (0), .int .i64 (0), .str 0 0, .int .i64 (0), .int .i64 (0), .int .i64 (0), .str 0 0, .str 0 0, .nils, .nils]], [], .bool true, none⟩
def crH17r11 : KRow := ⟨285, [.agg [.int .i64 (19), .str 0 0, .str 4 862009958, .int .i64 (0), .int .i64 (0), .str 0 0, .int .i64 (0), .int .i64 (0), .str 0 0, .int .i64 (0), .int .i64 (0), .int .i64 (0), .str 0 0, .str 0 0, .nils, .nils], .slo 282 0 2 1, .slo 236 0 18 2], crH17b6, .int .i64 (0), none⟩
def crH17r12 : KRow := ⟨285, [.ptr 101 0, .agg [.int .i64 (19), .str 0 0, .str 4 862009958, .int .i64 (0), .int .i64 (0), .str 0 0, .int .i64 (0), .int .i64 (0), .str 0 0, .int .i64 (0), .int .i64 (0), .int .i64 (0), .str 0 0, .str 0 0, .nils, .nils]], [], .bool true, none⟩
def crH17r13 : KRow := ⟨286, [.agg [.int .i64 (19), .str 0 0, .str 4 878787174, .int .i64 (0), .int .i64 (0), .str 0 0, .int .i64 (0), .int .i64 (0), .str 0 0, .int .i64 (0), .int .i64 (0), .int .i64 (0), .str 0 0, .str 0 0, .nils, .nils], .slo 283 0 2 1, .slo 236 0 18 2], crH17b7, .int .i64 (0), none⟩
def crH17r14 : KRow := ⟨286, [.ptr 101 0, .agg [.int .i64 (19), .str 0 0, .str 4 878787174, .int .i64 (0), .int .i64 (0), .str 0 0, .int .i64 (0), .int .i64 (0), .str 0 0, .int .i64 (0), .int .i64 (0), .int .i64 (0), .str 0 0, .str 0 0, .nils, .nils]], [], .bool true, none⟩
def crH17r15 : KRow := ⟨287, [.agg [.int .i64 (19), .str 0 0, .str 4 895564390, .int .i64 (0), .int .i64 (0), .str 0 0, .int .i64 (0), .int .i64 (0), .str 0 0, .int .i64 (0), .int .i64 (0), .int .i64 (0), .str 0 0, .str 0 0, .nils, .nils], .slo 284 0 2 1, .slo 236 0 18 2], crH17b8, .int .i64 (0), none⟩
def crH17r16 : KRow := ⟨287, [.ptr 101 0, .agg [.int .i64 (19), .str 0 0, .str 4 895564390, .int .i64 (0), .int .i64 (0), .str 0 0, .int .i64 (0), .int .i64 (0), .str 0 0, .int .i64 (0), .int .i64 (0), .int .i64 (0), .str 0 0, .str 0 0, .nils, .nils]], [], .bool true, none⟩
def crH17r17 : KRow := ⟨288, [.agg [.int .i64 (19), .str 0 0, .str 4 912341606, .int .i64 (0), .int .i64 (0), .str 0 0, .int .i64 (0), .int .i64 (0), .str 0 0, .int .i64 (0), .int .i64 (0), .int .i64 (0), .str 0 0, .str 0 0, .nils, .nils], .slo 285 0 2 1, .slo 236 0 18 2], crH17b9, .int .i64 (0), none⟩
def crH17r18 : KRow := ⟨288, [.ptr 101 0, .agg [.int .i64 (19), .str 0 0, .str 4 912341606, .int .i64 (0), .int .i64 (0), .str 0 0, .int .i64 (0), .int .i64 (0), .str 0 0, .int .i64 (0), .int .i64 (0), .int .i64 (0), .str 0 0, .str 0 0, .nils, .nils]], [], .bool true, none⟩
def crH17r19 : KRow := ⟨289, [.agg [.int .i64 (19), .str 0 0, .str 4 929118822, .int .i64 (0), .int .i64 (0), .str 0 0, .int .i64 (0), .int .i64 (0), .str 0 0, .int .i64 (0), .int .i64 (0), .int .i64 (0), .str 0 0, .str 0 0, .nils, .nils], .slo 286 0 2 1, .slo 236 0 18 2], crH17b10, .int .i64 (0), none⟩
def crH17r20 : KRow := ⟨289, [.ptr 101 0, .agg [.int .i64 (19), .str 0 0, .str 4 929118822, .int .i64 (0), .int .i64 (0), .str 0 0, .int .i64 (0), .int .i64 (0), .str 0 0, .int .i64 (0), .int .i64 (0), .int .i64 (0), .str 0 0, .str 0 0, .nils, .nils]], [], .bool true, none⟩
def crH17r21 : KRow := ⟨290, [.agg [.int .i64 (19), .str 0 0, .str 4 945896038, .int .i64 (0), .int .i64 (0), .str 0 0, .int .i64 (0), .int .i64 (0), .str 0 0, .int .i64 (0), .int .i64 (0), .int .i64 (0), .str 0 0, .str 0 0, .nils, .nils], .slo 287 0 2 1, .slo 236 0 18 2], crH17b11, .int .i64 (0), none⟩
def crH17r22 : KRow := ⟨290, [.ptr 101 0, .agg [.int .i64 (19), .str 0 0, .str 4 945896038, .int .i64 (0), .int .i64 (0), .str 0 0, .int .i64 (0), .int .i64 (0), .str 0 0, .int .i64 (0), .int .i64 (0), .int .i64 (0), .str 0 0, .str 0 0, .nils, .nils]], [], .bool true, none⟩
def crH17r23 : KRow := ⟨291, [.agg [.int .i64 (19), .str 0 0, .str 4 962673254, .int .i64 (0), .int .i64 (0), .str 0 0, .int .i64 (0), .int .i64 (0), .str 0 0, .int .i64 (0), .int .i64 (0), .int .i64 (0), .str 0 0, .str 0 0, .nils, .nils], .slo 288 0 2 1, .slo 236 0 18 2], crH17b12, .int .i64 (0), none⟩
def crH17r24 : KRow := ⟨291, [.ptr 101 0, .agg [.int .i64 (19), .str 0 0, .str 4 962673254, .int .i64 (0), .int .i64 (0), .str 0 0, .int .i64 (0), .int .i64 (0), .str 0 0, .int .i64 (0), .int .i64 (0), .int .i64 (0), .str 0 0, .str 0 0, .nils, .nils]], [], .bool true, none⟩
def crH17r25 : KRow := ⟨292, [.agg [.int .i64 (19), .str 0 0, .str 5 206986885734, .int .i64 (0), .int .i64 (0), .str 0 0, .int .i64 (0), .int .i64 (0), .str 0 0, .int .i64 (0), .int .i64 (0), .int .i64 (0), .str 0 0, .str 0 0, .nils, .nils], .slo 289 0 2 1, .slo 236 0 18 2], crH17b13, .int .i64 (0), none⟩
def crH17r26 : KRow := ⟨292, [.ptr 101 0, .agg [.int .i64 (19), .str 0 0, .str 5 206986885734, .int .i64 (0), .int .i64 (0), .str 0 0, .int .i64 (0), .int .i64 (0), .str 0 0, .int .i64 (0), .int .i64 (0), .int .i64 (0), .str 0 0, .str 0 0, .nils, .nils]], [], .bool true, none⟩
def crH17r27 : KRow := ⟨293, [.agg [.int .i64 (19), .str 0 0, .str 5 211281853030, .int .i64 (0), .int .i64 (0), .str 0 0, .int .i64 (0), .int .i64 (0), .str 0 0, .int .i64 (0), .int .i64 (0), .int .i64 (0), .str 0 0, .str 0 0, .nils, .nils], .slo 290 0 2 1, .slo 236 0 18 2], crH17b14, .int .i64 (0), none⟩
def crH17r28 : KRow := ⟨293, [.ptr 101 0, .agg [.int .i64 (19), .str 0 0, .str 5 211281853030, .int .i64 (0), .int .i64 (0), .str 0 0, .int .i64 (0), .int .i64 (0), .str 0 0, .int .i64 (0), .int .i64 (0), .int .i64 (0), .str 0 0, .str 0 0, .nils, .nils]], [], .bool true, none⟩
def crH17r29 : KRow := ⟨294, [.agg [.int .i64 (19), .str 0 0, .str 5 215576820326, .int .i64 (0), .int .i64 (0), .str 0 0, .int .i64 (0), .int .i64 (0), .str 0 0, .int .i64 (0), .int .i64 (0), .int .i64 (0), .str 0 0, .str 0 0, .nils, .nils], .slo 291 0 2 1, .slo 236 0 18 2], crH17b15, .int .i64 (0), none⟩
def crH17r30 : KRow := ⟨294, [.ptr 101 0, .agg [.int .i64 (19), .str 0 0, .str 5 215576820326, .int .i64 (0), .int .i64 (0), .str 0 0, .int .i64 (0), .int .i64 (0), .str 0 0, .int .i64 (0), .int .i64 (0), .int .i64 (0), .str 0 0, .str 0 0, .nils, .nils]], [], .bool true, none⟩
def crH17r31 : KRow := ⟨295, [.agg [.int .i64 (19), .str 0 0, .str 5 219871787622, .int .i64 (0), .int .i64 (0), .str 0 0, .int .i64 (0), .int .i64 (0), .str 0 0, .int .i64 (0), .int .i64 (0), .int .i64 (0), .str 0 0, .str 0 0, .nils, .nils], .slo 292 0 2 1, .slo 236 0 18 2], crH17b16, .int .i64 (0), none⟩
def crH17r32 : KRow := ⟨295, [.ptr 101 0, .agg [.int .i64 (19), .str 0 0, .str 5 219871787622, .int .i64 (0), .int .i64 (0), .str 0 0, .int .i64 (0), .int .i64 (0), .str 0 0, .int .i64 (0), .int .i64 (0), .int .i64 (0), .str 0 0, .str 0 0, .nils, .nils]], [], .bool true, none⟩
def crH17r33 : KRow := ⟨296, [.agg [.int .i64 (19), .str 0 0, .str 5 224166754918, .int .i64 (0), .int .i64 (0), .str 0 0, .int .i64 (0), .int .i64 (0), .str 0 0, .int .i64 (0), .int .i64 (0), .int .i64 (0), .str 0 0, .str 0 0, .nils, .nils], .slo 293 0 2 1, .slo 236 0 18 2], crH17b17, .int .i64 (0), none⟩
def crH17r34 : KRow := ⟨296, [.ptr 101 0, .agg [.int .i64 (19), .str 0 0, .str 5 224166754918, .int .i64 (0), .int .i64 (0), .str 0 0, .int .i64 (0), .int .i64 (0), .str 0 0, .int .i64 (0), .int .i64 (0), .int .i64 (0), .str 0 0, .str 0 0, .nils, .nils]], [], .bool true, none⟩
def crH17r35 : KRow := ⟨297, [.agg [.int .i64 (19), .str 0 0, .str 5 228461722214, .int .i64 (0), .int .i64 (0), .str 0 0, .int .i64 (0), .int .i64 (0), .str 0 0, .int .i64 (0), .int .i64 (0), .int .i64 (0), .str 0 0, .str 0 0, .nils, .nils], .slo 294 0 2 1, .slo 236 0 18 2], crH17b18, .int .i64 (0), none⟩
def crH17r36 : KRow := ⟨297, [.ptr 101 0, .agg [.int .i64 (19), .str 0 0, .str 5 228461722214, .int .i64 (0), .int .i64 (0), .str 0 0, .int .i64 (0), .int .i64 (0), .str 0 0, .int .i64 (0), .int .i64 (0), .int .i64 (0), .str 0 0, .str 0 0, .nils, .nils]], [], .bool true, none⟩
def crH17r37 : KRow := ⟨298, [.agg [.int .i64 (19), .str 0 0, .str 5 232756689510, .int .i64 (0), .int .i64 (0), .str 0 0, .int .i64 (0), .int .i64 (0), .str 0 0, .int .i64 (0), .int .i64 (0), .int .i64 (0), .str 0 0, .str 0 0, .nils, .nils], .slo 295 0 2 1, .slo 236 0 18 2], crH17b19, .int .i64 (0), none⟩
def crH17r38 : KRow := ⟨298, [.ptr 101 0, .agg [.int .i64 (19), .str 0 0, .str 5 232756689510, .int .i64 (0), .int .i64 (0), .str 0 0, .int .i64 (0), .int .i64 (0), .str 0 0, .int .i64 (0), .int .i64 (0), .int .i64 (0), .str 0 0, .str 0 0, .nils, .nils]], [], .bool true, none⟩
def crH17r39 : KRow := ⟨299, [.agg [.int .i64 (19), .str 0 0, .str 5 237051656806, .int .i64 (0), .int .i64 (0), .str 0 0, .int .i64 (0), .int .i64 (0), .str 0 0, .int .i64 (0), .int .i64 (0), .int .i64 (0), .str 0 0, .str 0 0, .nils, .nils], .slo 296 0 2 1, .slo 236 0 18 2], crH17b20, .int .i64 (0), none⟩
def crH17r40 : KRow := ⟨299, [.ptr 101 0, .agg [.int .i64 (19), .str 0 0, .str 5 237051656806, .int .i64 (0), .int .i64 (0), .str 0 0, .int .i64 (0), .int .i64 (0), .str 0 0, .int .i64 (0), .int .i64 (0), .int .i64 (0), .str 0 0, .str 0 0, .nils, .nils]], [], .bool true, none⟩
def crH17r41 : KRow := ⟨300, [.agg [.int .i64 (19), .str 0 0, .str 4 811678310, .int .i64 (0), .int .i64 (0), .str 0 0, .int .i64 (0), .int .i64 (0), .str 0 0, .int .i64 (0), .int .i64 (0), .int .i64 (0), .str 0 0, .str 0 0, .nils, .nils], .slo 297 0 2 1, .slo 236 0 18 2], crH17b21, .int .i64 (0), none⟩
def crH17r42 : KRow := ⟨300, [.ptr 101 0, .agg [.int .i64 (19), .str 0 0, .str 4 811678310, .int .i64 (0), .int .i64 (0), .str 0 0, .int .i64 (0), .int .i64 (0), .str 0 0, .int .i64 (0), .int .i64 (0), .int .i64 (0), .str 0 0, .str 0 0, .nils, .nils]], [], .bool true, none⟩
def crH17r43 : KRow := ⟨301, [.slc 300 0 2 2], crH17b22, .nils, none⟩
def crH17r44 : KRow := ⟨303, [.slo 157 0 18 1, .str 2 12660], crH17b2, .bool true, none⟩
def crH17r45 : KRow := ⟨305, [.slc 304 0 2 2], crH17b23, .nils, none⟩
def crH17r46 : KRow := ⟨307, [.agg [.int .i64 (19), .str 0 0, .str 4 828455526, .int .i64 (0), .int .i64 (0), .str 0 0, .int .i64 (0), .int .i64 (0), .str 0 0, .int .i64 (0), .int .i64 (0), .int .i64 (0), .str 0 0, .str 0 0, .nils, .nils], .slo 163 0 2 1, .slo 236 0 18 2], crH17b0, .int .i64 (0), none⟩
def crH17r47 : KRow := ⟨307, [.ptr 101 0, .agg [.int .i64 (19), .str 0 0, .str 4 828455526, .int .i64 (0), .int .i64 (0), .str 0 0, .int .i64 (0), .int .i64 (0), .str 0 0, .int .i64 (0), .int .i64 (0), .int .i64 (0), .str 0 0, .str 0 0, .nils, .nils]], [], .bool true, none⟩
def crH17r48 : KRow := ⟨302, [.slc 301 0 2 2], crH17b24, .nils, none⟩
def crH17r49 : KRow := ⟨304, [.slo 157 0 18 1, .str 2 12916], crH17b2, .bool true, none⟩
def crH17r50 : KRow := ⟨306, [.slc 305 0 2 2], crH17b25, .nils, none⟩
def crH17r51 : KRow := ⟨308, [.agg [.int .i64 (19), .str 0 0, .str 4 845232742, .int .i64 (0), .int .i64 (0), .str 0 0, .int .i64 (0), .int .i64 (0), .str 0 0, .int .i64 (0), .int .i64 (0), .int .i64 (0), .str 0 0, .str 0 0, .nils, .nils], .slo 163 0 2 1, .slo 236 0 18 2], crH17b0, .int .i64 (0), none⟩
def crH17r52 : KRow := ⟨308, [.ptr 101 0, .agg [.int .i64 (19), .str 0 0, .str 4 845232742, .int .i64 (0), .int .i64 (0), .str 0 0, .int .i64 (0), .int .i64 (0), .str 0 0, .int .i64 (0), .int .i64 (0), .int .i64 (0), .str 0 0, .str 0 0, .nils, .nils]], [], .bool true, none⟩
def crH17r53 : KRow := ⟨303, [.slc 302 0 2 2], crH17b26, .nils, none⟩
def crH17r54 : KRow := ⟨305, [.slo 157 0 18 1, .str 2 13172], crH17b2, .bool true, none⟩
def crH17r55 : KRow := ⟨307, [.slc 306 0 2 2], crH17b27, .nils, none⟩
def crH17r56 : KRow := ⟨309, [.agg [.int .i64 (19), .str 0 0, .str 4 862009958, .int .i64 (0), .int .i64 (0), .str 0 0, .int .i64 (0), .int .i64 (0), .str 0 0, .int .i64 (0), .int .i64 (0), .int .i64 (0), .str 0 0, .str 0 0, .nils, .nils], .slo 163 0 2 1, .slo 236 0 18 2], crH17b0, .int .i64 (0), none⟩
def crH17r57 : KRow := ⟨309, [.ptr 101 0, .agg [.int .i64 (19), .str 0 0, .str 4 862009958, .int .i64 (0), .int .i64 (0), .str 0 0, .int .i64 (0), .int .i64 (0), .str 0 0, .int .i64 (0), .int .i64 (0), .int .i64 (0), .str 0 0, .str 0 0, .nils, .nils]], [], .bool true, none⟩
def crH17r58 : KRow := ⟨304, [.slc 303 0 2 2], crH17b28, .nils, none⟩
def crH17r59 : KRow := ⟨306, [.slo 157 0 18 1, .str 2 13428], crH17b2, .bool true, none⟩
def crH17r60 : KRow := ⟨308, [.slc 307 0 2 2], crH17b29, .nils, none⟩
def crH17r61 : KRow := ⟨310, [.agg [.int .i64 (19), .str 0 0, .str 4 878787174, .int .i64 (0), .int .i64 (0), .str 0 0, .int .i64 (0), .int .i64 (0), .str 0 0, .int .i64 (0), .int .i64 (0), .int .i64 (0), .str 0 0, .str 0 0, .nils, .nils], .slo 163 0 2 1, .slo 236 0 18 2], crH17b0, .int .i64 (0), none⟩
def crH17r62 : KRow := ⟨310, [.ptr 101 0, .agg [.int .i64 (19), .str 0 0, .str 4 878787174, .int .i64 (0), .int .i64 (0), .str 0 0, .int .i64 (0), .int .i64 (0), .str 0 0, .int .i64 (0), .int .i64 (0), .int .i64 (0), .str 0 0, .str 0 0, .nils, .nils]], [], .bool true, none⟩
def crH17r63 : KRow := ⟨305, [.slc 304 0 2 2], crH17b23, .nils, none⟩
def crH17r64 : KRow := ⟨307, [.slo 157 0 18 1, .str 2 13684], crH17b2, .bool true, none⟩
def crH17r65 : KRow := ⟨309, [.slc 308 0 2 2], crH17b30, .nils, none⟩
def crH17r66 : KRow := ⟨311, [.agg [.int .i64 (19), .str 0 0, .str 4 895564390, .int .i64 (0), .int .i64 (0), .str 0 0, .int .i64 (0), .int .i64 (0), .str 0 0, .int .i64 (0), .int .i64 (0), .int .i64 (0), .str 0 0, .str 0 0, .nils, .nils], .slo 163 0 2 1, .slo 236 0 18 2], crH17b0, .int .i64 (0), none⟩
def crH17r67 : KRow := ⟨311, [.ptr 101 0, .agg [.int .i64 (19), .str 0 0, .str 4 895564390, .int .i64 (0), .int .i64 (0), .str 0 0, .int .i64 (0), .int .i64 (0), .str 0 0, .int .i64 (0), .int .i64 (0), .int .i64 (0), .str 0 0, .str 0 0, .nils, .nils]], [], .bool true, none⟩
def crH17r68 : KRow := ⟨306, [.slc 305 0 2 2], crH17b25, .nils, none⟩
def crH17r69 : KRow := ⟨308, [.slo 157 0 18 1, .str 2 13940], crH17b2, .bool true, none⟩
def crH17r70 : KRow := ⟨310, [.slc 309 0 2 2], crH17b31, .nils, none⟩
def crH17r71 : KRow := ⟨312, [.agg [.int .i64 (19), .str 0 0, .str 4 912341606, .int .i64 (0), .int .i64 (0), .str 0 0, .int .i64 (0), .int .i64 (0), .str 0 0, .int .i64 (0), .int .i64 (0), .int .i64 (0), .str 0 0, .str 0 0, .nils, .nils], .slo 163 0 2 1, .slo 236 0 18 2], crH17b0, .int .i64 (0), none⟩
def crH17r72 : KRow := ⟨312, [.ptr 101 0, .agg [.int .i64 (19), .str 0 0, .str 4 912341606, .int .i64 (0), .int .i64 (0), .str 0 0, .int .i64 (0), .int .i64 (0), .str 0 0, .int .i64 (0), .int .i64 (0), .int .i64 (0), .str 0 0, .str 0 0, .nils, .nils]], [], .bool true, none⟩
def crH17r73 : KRow := ⟨307, [.slc 306 0 2 2], crH17b27, .nils, none⟩
def crH17r74 : KRow := ⟨309, [.slo 157 0 18 1, .str 2 14196], crH17b2, .bool true, none⟩
def crH17r75 : KRow := ⟨311, [.slc 310 0 2 2], crH17b32, .nils, none⟩
def crH17r76 : KRow := ⟨313, [.agg [.int .i64 (19), .str 0 0, .str 4 929118822, .int .i64 (0), .int .i64 (0), .str 0 0, .int .i64 (0), .int .i64 (0), .str 0 0, .int .i64 (0), .int .i64 (0), .int .i64 (0), .str 0 0, .str 0 0, .nils, .nils], .slo 163 0 2 1, .slo 236 0 18 2], crH17b0, .int .i64 (0), none⟩
def crH17r77 : KRow := ⟨313, [.ptr 101 0, .agg [.int .i64 (19), .str 0 0, .str 4 929118822, .int .i64 (0), .int .i64 (0), .str 0 0, .int .i64 (0), .int .i64 (0), .str 0 0, .int .i64 (0), .int .i64 (0), .int .i64 (0), .str 0 0, .str 0 0, .nils, .nils]], [], .bool true, none⟩
def crH17r78 : KRow := ⟨308, [.slc 307 0 2 2], crH17b29, .nils, none⟩
def crH17r79 : KRow := ⟨310, [.slo 157 0 18 1, .str 2 14452], crH17b2, .bool true, none⟩
def crH17r80 : KRow := ⟨312, [.slc 311 0 2 2], crH17b33, .nils, none⟩
def crH17r81 : KRow := ⟨314, [.agg [.int .i64 (19), .str 0 0, .str 4 945896038, .int .i64 (0), .int .i64 (0), .str 0 0, .int .i64 (0), .int .i64 (0), .str 0 0, .int .i64 (0), .int .i64 (0), .int .i64 (0), .str 0 0, .str 0 0, .nils, .nils], .slo 163 0 2 1, .slo 236 0 18 2], crH17b0, .int .i64 (0), none⟩
def crH17r82 : KRow := ⟨314, [.ptr 101 0, .agg [.int .i64 (19), .str 0 0, .str 4 945896038, .int .i64 (0), .int .i64 (0), .str 0 0, .int .i64 (0), .int .i64 (0), .str 0 0, .int .i64 (0), .int .i64 (0), .int .i64 (0), .str 0 0, .str 0 0, .nils, .nils]], [], .bool true, none⟩
def crH17r83 : KRow := ⟨309, [.slc 308 0 2 2], crH17b30, .nils, none⟩
def crH17r84 : KRow := ⟨311, [.slo 157 0 18 1, .str 2 14708], crH17b2, .bool true, none⟩
def crH17r85 : KRow := ⟨313, [.slc 312 0 2 2], crH17b34, .nils, none⟩
def crH17r86 : KRow := ⟨315, [.agg [.int .i64 (19), .str 0 0, .str 4 962673254, .int .i64 (0), .int .i64 (0), .str 0 0, .int .i64 (0), .int .i64 (0), .str 0 0, .int .i64 (0), .int .i64 (0), .int .i64 (0), .str 0 0, .str 0 0, .nils, .nils], .slo 163 0 2 1, .slo 236 0 18 2], crH17b0, .int .i64 (0), none⟩
def crH17r87 : KRow := ⟨315, [.ptr 101 0, .agg [.int .i64 (19), .str 0 0, .str 4 962673254, .int .i64 (0), .int .i64 (0), .str 0 0, .int .i64 (0), .int .i64 (0), .str 0 0, .int .i64 (0), .int .i64 (0), .int .i64 (0), .str 0 0, .str 0 0, .nils, .nils]], [], .bool true, none⟩
def crH17r88 : KRow := ⟨310, [.slc 309 0 2 2], crH17b31, .nils, none⟩
def crH17r89 : KRow := ⟨312, [.slo 157 0 18 1, .str 3 3158388], crH17b2, .bool true, none⟩
def crH17r90 : KRow := ⟨314, [.slc 313 0 2 2], crH17b35, .nils, none⟩
def crH17r91 : KRow := ⟨316, [.agg [.int .i64 (19), .str 0 0, .str 5 206986885734, .int .i64 (0), .int .i64 (0), .str 0 0, .int .i64 (0), .int .i64 (0), .str 0 0, .int .i64 (0), .int .i64 (0), .int .i64 (0), .str 0 0, .str 0 0, .nils, .nils], .slo 163 0 2 1, .slo 236 0 18 2], crH17b0, .int .i64 (0), none⟩
def crH17r92 : KRow := ⟨316, [.ptr 101 0, .agg [.int .i64 (19), .str 0 0, .str 5 206986885734, .int .i64 (0), .int .i64 (0), .str 0 0, .int .i64 (0), .int .i64 (0), .str 0 0, .int .i64 (0), .int .i64 (0), .int .i64 (0), .str 0 0, .str 0 0, .nils, .nils]], [], .bool true, none⟩
def crH17r93 : KRow := ⟨311, [.slc 310 0 2 2], crH17b32, .nils, none⟩
def crH17r94 : KRow := ⟨313, [.slo 157 0 18 1, .str 3 3223924], crH17b2, .bool true, none⟩
def crH17r95 : KRow := ⟨315, [.slc 314 0 2 2], crH17b36, .nils, none⟩
def crH17r96 : KRow := ⟨317, [.agg [.int .i64 (19), .str 0 0, .str 5 211281853030, .int .i64 (0), .int .i64 (0), .str 0 0, .int .i64 (0), .int .i64 (0), .str 0 0, .int .i64 (0), .int .i64 (0), .int .i64 (0), .str 0 0, .str 0 0, .nils, .nils], .slo 163 0 2 1, .slo 236 0 18 2], crH17b0, .int .i64 (0), none⟩
def crH17r97 : KRow := ⟨317, [.ptr 101 0, .agg [.int .i64 (19), .str 0 0, .str 5 211281853030, .int .i64 (0), .int .i64 (0), .str 0 0, .int .i64 (0), .int .i64 (0), .str 0 0, .int .i64 (0), .int .i64 (0), .int .i64 (0), .str 0 0, .str 0 0, .nils, .nils]], [], .bool true, none⟩
def crH17r98 : KRow := ⟨312, [.slc 311 0 2 2], crH17b33, .nils, none⟩
def crH17r99 : KRow := ⟨314, [.slo 157 0 18 1, .str 3 3289460], crH17b2, .bool true, none⟩
def crH17r100 : KRow := ⟨316, [.slc 315 0 2 2], crH17b37, .nils, none⟩
def crH17r101 : KRow := ⟨318, [.agg [.int .i64 (19), .str 0 0, .str 5 215576820326, .int .i64 (0), .int .i64 (0), .str 0 0, .int .i64 (0), .int .i64 (0), .str 0 0, .int .i64 (0), .int .i64 (0), .int .i64 (0), .str 0 0, .str 0 0, .nils, .nils], .slo 163 0 2 1, .slo 236 0 18 2], crH17b0, .int .i64 (0), none⟩
def crH17r102 : KRow := ⟨318, [.ptr 101 0, .agg [.int .i64 (19), .str 0 0, .str 5 215576820326, .int .i64 (0), .int .i64 (0), .str 0 0, .int .i64 (0), .int .i64 (0), .str 0 0, .int .i64 (0), .int .i64 (0), .int .i64 (0), .str 0 0, .str 0 0, .nils, .nils]], [], .bool true, none⟩
def crH17r103 : KRow := ⟨313, [.slc 312 0 2 2], crH17b34, .nils, none⟩
def crH17r104 : KRow := ⟨315, [.slo 157 0 18 1, .str 3 3354996], crH17b2, .bool true, none⟩
def crH17r105 : KRow := ⟨317, [.slc 316 0 2 2], crH17b38, .nils, none⟩
def crH17r106 : KRow := ⟨319, [.agg [.int .i64 (19), .str 0 0, .str 5 219871787622, .int .i64 (0), .int .i64 (0), .str 0 0, .int .i64 (0), .int .i64 (0), .str 0 0, .int .i64 (0), .int .i64 (0), .int .i64 (0), .str 0 0, .str 0 0, .nils, .nils], .slo 163 0 2 1, .slo 236 0 18 2], crH17b0, .int .i64 (0), none⟩
def crH17r107 : KRow := ⟨319, [.ptr 101 0, .agg [.int .i64 (19), .str 0 0, .str 5 219871787622, .int .i64 (0), .int .i64 (0), .str 0 0, .int .i64 (0), .int .i64 (0), .str 0 0, .int .i64 (0), .int .i64 (0), .int .i64 (0), .str 0 0, .str 0 0, .nils, .nils]], [], .bool true, none⟩
def crH17r108 : KRow := ⟨314, [.slc 313 0 2 2], crH17b35, .nils, none⟩
def crH17r109 : KRow := ⟨316, [.slo 157 0 18 1, .str 3 3420532], crH17b2, .bool true, none⟩
def crH17r110 : KRow := ⟨318, [.slc 317 0 2 2], crH17b39, .nils, none⟩
def crH17r111 : KRow := ⟨320, [.agg [.int .i64 (19), .str 0 0, .str 5 224166754918, .int .i64 (0), .int .i64 (0), .str 0 0, .int .i64 (0), .int .i64 (0), .str 0 0, .int .i64 (0), .int .i64 (0), .int .i64 (0), .str 0 0, .str 0 0, .nils, .nils], .slo 163 0 2 1, .slo 236 0 18 2], crH17b0, .int .i64 (0), none⟩
def crH17r112 : KRow := ⟨320, [.ptr 101 0, .agg [.int .i64 (19), .str 0 0, .str 5 224166754918, .int .i64 (0), .int .i64 (0), .str 0 0, .int .i64 (0), .int .i64 (0), .str 0 0, .int .i64 (0), .int .i64 (0), .int .i64 (0), .str 0 0, .str 0 0, .nils, .nils]], [], .bool true, none⟩
def crH17r113 : KRow := ⟨315, [.slc 314 0 2 2], crH17b36, .nils, none⟩
def crH17r114 : KRow := ⟨317, [.slo 157 0 18 1, .str 3 3486068], crH17b2, .bool true, none⟩
def crH17r115 : KRow := ⟨319, [.slc 318 0 2 2], crH17b40, .nils, none⟩
def crH17r116 : KRow := ⟨321, [.agg [.int .i64 (19), .str 0 0, .str 5 228461722214, .int .i64 (0), .int .i64 (0), .str 0 0, .int .i64 (0), .int .i64 (0), .str 0 0, .int .i64 (0), .int .i64 (0), .int .i64 (0), .str 0 0, .str 0 0, .nils, .nils], .slo 163 0 2 1, .slo 236 0 18 2], crH17b0, .int .i64 (0), none⟩
def crH17r117 : KRow := ⟨321, [.ptr 101 0, .agg [.int .i64 (19), .str 0 0, .str 5 228461722214, .int .i64 (0), .int .i64 (0), .str 0 0, .int .i64 (0), .int .i64 (0), .str 0 0, .int .i64 (0), .int .i64 (0), .int .i64 (0), .str 0 0, .str 0 0, .nils, .nils]], [], .bool true, none⟩
def crH17r118 : KRow := ⟨316, [.slc 315 0 2 2], crH17b37, .nils, none⟩
def crH17r119 : KRow := ⟨318, [.slo 157 0 18 1, .str 3 3551604], crH17b2, .bool true, none⟩
def crH17r120 : KRow := ⟨320, [.slc 319 0 2 2], crH17b41, .nils, none⟩
def crH17r121 : KRow := ⟨322, [.agg [.int .i64 (19), .str 0 0, .str 5 232756689510, .int .i64 (0), .int .i64 (0), .str 0 0, .int .i64 (0), .int .i64 (0), .str 0 0, .int .i64 (0), .int .i64 (0), .int .i64 (0), .str 0 0, .str 0 0, .nils, .nils], .slo 163 0 2 1, .slo 236 0 18 2], crH17b0, .int .i64 (0), none⟩
def crH17r122 : KRow := ⟨322, [.ptr 101 0, .agg [.int .i64 (19), .str 0 0, .str 5 232756689510, .int .i64 (0), .int .i64 (0), .str 0 0, .int .i64 (0), .int .i64 (0), .str 0 0, .int .i64 (0), .int .i64 (0), .int .i64 (0), .str 0 0, .str 0 0, .nils, .nils]], [], .bool true, none⟩
def crH17r123 : KRow := ⟨317, [.slc 316 0 2 2], crH17b38, .nils, none⟩
def crH17r124 : KRow := ⟨319, [.slo 157 0 18 1, .str 3 3617140], crH17b2, .bool true, none⟩
def crH17r125 : KRow := ⟨321, [.slc 320 0 2 2], crH17b42, .nils, none⟩
def crH17r126 : KRow := ⟨323, [.agg [.int .i64 (19), .str 0 0, .str 5 237051656806, .int .i64 (0), .int .i64 (0), .str 0 0, .int .i64 (0), .int .i64 (0), .str 0 0, .int .i64 (0), .int .i64 (0), .int .i64 (0), .str 0 0, .str 0 0, .nils, .nils], .slo 163 0 2 1, .slo 236 0 18 2], crH17b0, .int .i64 (0), none⟩
def crH17r127 : KRow := ⟨323, [.ptr 101 0, .agg [.int .i64 (19), .str 0 0, .str 5 237051656806, .int .i64 (0), .int .i64 (0), .str 0 0, .int .i64 (0), .int .i64 (0), .str 0 0, .int .i64 (0), .int .i64 (0), .int .i64 (0), .str 0 0, .str 0 0, .nils, .nils]], [], .bool true, none⟩
def crH17r128 : KRow := ⟨318, [.slc 317 0 2 2], crH17b39, .nils, none⟩
def crH17r129 : KRow := ⟨320, [.slo 157 0 18 1, .str 2 12404], crH17b2, .bool true, none⟩
def crH17r130 : KRow := ⟨322, [.slc 321 0 2 2], crH17b43, .nils, none⟩
def crH17r131 : KRow := ⟨324, [.agg [.int .i64 (19), .str 0 0, .str 4 811678310, .int .i64 (0), .int .i64 (0), .str 0 0, .int .i64 (0), .int .i64 (0), .str 0 0, .int .i64 (0), .int .i64 (0), .int .i64 (0), .str 0 0, .str 0 0, .nils, .nils], .slo 163 0 2 1, .slo 236 0 18 2], crH17b0, .int .i64 (0), none⟩
def crH17r132 : KRow := ⟨324, [.ptr 101 0, .agg [.int .i64 (19), .str 0 0, .str 4 811678310, .int .i64 (0), .int .i64 (0), .str 0 0, .int .i64 (0), .int .i64 (0), .str 0 0, .int .i64 (0), .int .i64 (0), .int .i64 (0), .str 0 0, .str 0 0, .nils, .nils]], [], .bool true, none⟩
def crH17r133 : KRow := ⟨759, [.nils, .str 1 103], [], .bool false, none⟩
def crH17r134 : KRow := ⟨771, [.slc 770 0 2 2], crH17b44, .nils, none⟩
def crH17r135 : KRow := ⟨778, [.slc 777 0 2 2], crH17b45, .nils, none⟩
def crH17r136 : KRow := ⟨786, [.slc 785 0 2 2], crH17b46, .nils, none⟩
def crH17r137 : KRow := ⟨795, [.slc 794 0 2 2], crH17b47, .nils, none⟩
def crH17r138 : KRow := ⟨805, [.slc 804 0 2 2], crH17b48, .nils, none⟩
def crH17r139 : KRow := ⟨816, [.slc 815 0 2 2], crH17b49, .nils, none⟩
def crH17r140 : KRow := ⟨828, [.slc 827 0 2 2], crH17b50, .nils, none⟩
def crH17r141 : KRow := ⟨841, [.slc 840 0 2 2], crH17b51, .nils, none⟩
def crH17r142 : KRow := ⟨855, [.slc 854 0 2 2], crH17b52, .nils, none⟩
def crH17r143 : KRow := ⟨870, [.slc 869 0 2 2], crH17b53, .nils, none⟩
def crH17r144 : KRow := ⟨886, [.slc 885 0 2 2], crH17b54, .nils, none⟩
def crH17r145 : KRow := ⟨903, [.slc 902 0 2 2], crH17b55, .nils, none⟩
def crH17r146 : KRow := ⟨921, [.slc 920 0 2 2], crH17b56, .nils, none⟩
def crH17r147 : KRow := ⟨940, [.slc 939 0 2 2], crH17b57, .nils, none⟩
def crH17r148 : KRow := ⟨960, [.slc 959 0 2 2], crH17b58, .nils, none⟩
def crH17r149 : KRow := ⟨981, [.slc 980 0 2 2], crH17b59, .nils, none⟩
def crH17r150 : KRow := ⟨1003, [.slc 1002 0 2 2], crH17b60, .nils, none⟩
def crH17r151 : KRow := ⟨1026, [.slc 1025 0 2 2], crH17b61, .nils, none⟩
def crH17r152 : KRow := ⟨1050, [.slc 1049 0 2 2], crH17b62, .nils, none⟩
def crH17r153 : KRow := ⟨1055, [.slc 1054 0 2 2], crH17b63, .nils, none⟩
def crH17r154 : KRow := ⟨1495, [.slc 1494 0 2 2], crH17b64, .nils, none⟩
def crH17r155 : KRow := ⟨1504, [.slc 1503 0 2 2], crH17b65, .nils, none⟩
def crH17r156 : KRow := ⟨1514, [.slc 1513 0 2 2], crH17b66, .nils, none⟩
def crH17r157 : KRow := ⟨1525, [.slc 1524 0 2 2], crH17b67, .nils, none⟩
def crH17r158 : KRow := ⟨1537, [.slc 1536 0 2 2], crH17b68, .nils, none⟩
def crH17r159 : KRow := ⟨1550, [.slc 1549 0 2 2], crH17b69, .nils, none⟩
def crH17r160 : KRow := ⟨1564, [.slc 1563 0 2 2], crH17b70, .nils, none⟩
def crH17r161 : KRow := ⟨1579, [.slc 1578 0 2 2], crH17b71, .nils, none⟩
def crH17r162 : KRow := ⟨1595, [.slc 1594 0 2 2], crH17b72, .nils, none⟩
def crH17r163 : KRow := ⟨1612, [.slc 1611 0 2 2], crH17b73, .nils, none⟩
def crH17r164 : KRow := ⟨1630, [.slc 1629 0 2 2], crH17b74, .nils, none⟩
def crH17r165 : KRow := ⟨1649, [.slc 1648 0 2 2], crH17b75, .nils, none⟩
def crH17r166 : KRow := ⟨1669, [.slc 1668 0 2 2], crH17b76, .nils, none⟩
def crH17r167 : KRow := ⟨1690, [.slc 1689 0 2 2], crH17b77, .nils, none⟩
def crH17r168 : KRow := ⟨1712, [.slc 1711 0 2 2], crH17b78, .nils, none⟩
def crH17r169 : KRow := ⟨1735, [.slc 1734 0 2 2], crH17b79, .nils, none⟩
def crH17r170 : KRow := ⟨1759, [.slc 1758 0 2 2], crH17b80, .nils, none⟩
def crH17r171 : KRow := ⟨1784, [.slc 1783 0 2 2], crH17b81, .nils, none⟩
def crH17r172 : KRow := ⟨1793, [.nils, .str 1 103], [], .bool false, none⟩
def crH17r173 : KRow := ⟨1802, [.slo 1795 0 1 1, .str 1 104], crH17b82, .bool false, none⟩
def crZ17 (f : Nat) : Option XK := cond (Nat.beq f 15) (some (.known [crH17r3, crH17r44, crH17r49, crH17r54, crH17r59, crH17r64, crH17r69, crH17r74, crH17r79, crH17r84, crH17r89, crH17r94, crH17r99, crH17r104, crH17r109, crH17r114, crH17r119, crH17r124, crH17r129, crH17r133, crH17r172, crH17r173])) (cond (Nat.beq f 70) (some (.known [crH17r0, crH17r5, crH17r7, crH17r9, crH17r11, crH17r13, crH17r15, crH17r17, crH17r19, crH17r21, crH17r23, crH17r25, crH17r27, crH17r29, crH17r31, crH17r33, crH17r35, crH17r37, crH17r39, crH17r41, crH17r46, crH17r51, crH17r56, crH17r61, crH17r66, crH17r71, crH17r76, crH17r81, crH17r86, crH17r91, crH17r96, crH17r101, crH17r106, crH17r111, crH17r116, crH17r121, crH17r126, crH17r131])) (cond (Nat.beq f 71) (some (.known [crH17r1, crH17r6, crH17r8, crH17r10, crH17r12, crH17r14, crH17r16, crH17r18, crH17r20, crH17r22, crH17r24, crH17r26, crH17r28, crH17r30, crH17r32, crH17r34, crH17r36, crH17r38, crH17r40, crH17r42, crH17r47, crH17r52, crH17r57, crH17r62, crH17r67, crH17r72, crH17r77, crH17r82, crH17r87, crH17r92, crH17r97, crH17r102, crH17r107, crH17r112, crH17r117, crH17r122, crH17r127, crH17r132])) (cond (Nat.beq f 85) (some (.known [crH17r2, crH17r4, crH17r43, crH17r45, crH17r48, crH17r50, crH17r53, crH17r55, crH17r58, crH17r60, crH17r63, crH17r65, crH17r68, crH17r70, crH17r73, crH17r75, crH17r78, crH17r80, crH17r83, crH17r85, crH17r88, crH17r90, crH17r93, crH17r95, crH17r98, crH17r100, crH17r103, crH17r105, crH17r108, crH17r110, crH17r113, crH17r115, crH17r118, crH17r120, crH17r123, crH17r125, crH17r128, crH17r130, crH17r134, crH17r135, crH17r136, crH17r137, crH17r138, crH17r139, crH17r140, crH17r141, crH17r142, crH17r143, crH17r144, crH17r145, crH17r146, crH17r147, crH17r148, crH17r149, crH17r150, crH17r151, crH17r152, crH17r153, crH17r154, crH17r155, crH17r156, crH17r157, crH17r158, crH17r159, crH17r160, crH17r161, crH17r162, crH17r163, crH17r164, crH17r165, crH17r166, crH17r167, crH17r168, crH17r169, crH17r170, crH17r171])) (crY f))))
noncomputable def crH17run (f : Nat) (r : KRow) : Bool := (ev crE crY Tryz.prog 1001).f.f f r.args ⟨crHp (crHp .e crBs) r.bs, r.nx, big⟩ (rowEnd r) (fun _ _ => false)
theorem crH17r0_run : crH17run 70 crH17r0 = true := by kernel_rfl
theorem crH17r1_run : crH17run 71 crH17r1 = true := by kernel_rfl
theorem crH17r2_run : crH17run 85 crH17r2 = true := by kernel_rfl
theorem crH17r3_run : crH17run 15 crH17r3 = true := by kernel_rfl
theorem crH17r4_run : crH17run 85 crH17r4 = true := by kernel_rfl
theorem crH17r5_run : crH17run 70 crH17r5 = true := by kernel_rfl
theorem crH17r6_run : crH17run 71 crH17r6 = true := by kernel_rfl
theorem crH17r7_run : crH17run 70 crH17r7 = true := by kernel_rfl
theorem crH17r8_run : crH17run 71 crH17r8 = true := by kernel_rfl
theorem crH17r9_run : crH17run 70 crH17r9 = true := by kernel_rfl
theorem crH17r10_run : crH17run 71 crH17r10 = true := by kernel_rfl
theorem crH17r11_run : crH17run 70 crH17r11 = true := by kernel_rfl
theorem crH17r12_run : crH17run 71 crH17r12 = true := by kernel_rfl
theorem crH17r13_run : crH17run 70 crH17r13 = true := by kernel_rfl
theorem crH17r14_run : crH17run 71 crH17r14 = true := by kernel_rfl
theorem crH17r15_run : crH17run 70 crH17r15 = true := by kernel_rfl
theorem crH17r16_run : crH17run 71 crH17r16 = true := by kernel_rfl
theorem crH17r17_run : crH17run 70 crH17r17 = true := by kernel_rfl
theorem crH17r18_run : crH17run 71 crH17r18 = true := by kernel_rfl
theorem crH17r19_run : crH17run 70 crH17r19 = true := by kernel_rfl
theorem crH17r20_run : crH17run 71 crH17r20 = true := by kernel_rfl
theorem crH17r21_run : crH17run 70 crH17r21 = true := by kernel_rfl
theorem crH17r22_run : crH17run 71 crH17r22 = true := by kernel_rfl
theorem crH17r23_run : crH17run 70 crH17r23 = true := by kernel_rfl
theorem crH17r24_run : crH17run 71 crH17r24 = true := by kernel_rfl
theorem crH17r25_run : crH17run 70 crH17r25 = true := by kernel_rfl
theorem crH17r26_run : crH17run 71 crH17r26 = true := by kernel_rfl
theorem crH17r27_run : crH17run 70 crH17r27 = true := by kernel_rfl
theorem crH17r28_run : crH17run 71 crH17r28 = true := by kernel_rfl
theorem crH17r29_run : crH17run 70 crH17r29 = true := by kernel_rfl
theorem crH17r30_run : crH17run 71 crH17r30 = true := by kernel_rfl
theorem crH17r31_run : crH17run 70 crH17r31 = true := by kernel_rfl
theorem crH17r32_run : crH17run 71 crH17r32 = true := by kernel_rfl
theorem crH17r33_run : crH17run 70 crH17r33 = true := by kernel_rfl
theorem crH17r34_run : crH17run 71 crH17r34 = true := by kernel_rfl
theorem crH17r35_run : crH17run 70 crH17r35 = true := by kernel_rfl
theorem crH17r36_run : crH17run 71 crH17r36 = true := by kernel_rfl
theorem crH17r37_run : crH17run 70 crH17r37 = true := by kernel_rfl
theorem crH17r38_run : crH17run 71 crH17r38 = true := by kernel_rfl
theorem crH17r39_run : crH17run 70 crH17r39 = true := by kernel_rfl
theorem crH17r40_run : crH17run 71 crH17r40 = true := by kernel_rfl
theorem crH17r41_run : crH17run 70 crH17r41 = true := by kernel_rfl
theorem crH17r42_run : crH17run 71 crH17r42 = true := by kernel_rfl
theorem crH17r43_run : crH17run 85 crH17r43 = true := by kernel_rfl
theorem crH17r44_run : crH17run 15 crH17r44 = true := by kernel_rfl
theorem crH17r45_run : crH17run 85 crH17r45 = true := by kernel_rfl
theorem crH17r46_run : crH17run 70 crH17r46 = true := by kernel_rfl
theorem crH17r47_run : crH17run 71 crH17r47 = true := by kernel_rfl
theorem crH17r48_run : crH17run 85 crH17r48 = true := by kernel_rfl
theorem crH17r49_run : crH17run 15 crH17r49 = true := by kernel_rfl
theorem crH17r50_run : crH17run 85 crH17r50 = true := by kernel_rfl
theorem crH17r51_run : crH17run 70 crH17r51 = true := by kernel_rfl
theorem crH17r52_run : crH17run 71 crH17r52 = true := by kernel_rfl
theorem crH17r53_run : crH17run 85 crH17r53 = true := by kernel_rfl
theorem crH17r54_run : crH17run 15 crH17r54 = true := by kernel_rfl
theorem crH17r55_run : crH17run 85 crH17r55 = true := by kernel_rfl
theorem crH17r56_run : crH17run 70 crH17r56 = true := by kernel_rfl
theorem crH17r57_run : crH17run 71 crH17r57 = true := by kernel_rfl
theorem crH17r58_run : crH17run 85 crH17r58 = true := by kernel_rfl
theorem crH17r59_run : crH17run 15 crH17r59 = true := by kernel_rfl
theorem crH17r60_run : crH17run 85 crH17r60 = true := by kernel_rfl
theorem crH17r61_run : crH17run 70 crH17r61 = true := by kernel_rfl
theorem crH17r62_run : crH17run 71 crH17r62 = true := by kernel_rfl
theorem crH17r63_run : crH17run 85 crH17r63 = true := by kernel_rfl
theorem crH17r64_run : crH17run 15 crH17r64 = true := by kernel_rfl
theorem crH17r65_run : crH17run 85 crH17r65 = true := by kernel_rfl
theorem crH17r66_run : crH17run 70 crH17r66 = true := by kernel_rfl
theorem crH17r67_run : crH17run 71 crH17r67 = true := by kernel_rfl
theorem crH17r68_run : crH17run 85 crH17r68 = true := by kernel_rfl
theorem crH17r69_run : crH17run 15 crH17r69 = true := by kernel_rfl
theorem crH17r70_run : crH17run 85 crH17r70 = true := by kernel_rfl
theorem crH17r71_run : crH17run 70 crH17r71 = true := by kernel_rfl
theorem crH17r72_run : crH17run 71 crH17r72 = true := by kernel_rfl
theorem crH17r73_run : crH17run 85 crH17r73 = true := by kernel_rfl
theorem crH17r74_run : crH17run 15 crH17r74 = true := by kernel_rfl
theorem crH17r75_run : crH17run 85 crH17r75 = true := by kernel_rfl
theorem crH17r76_run : crH17run 70 crH17r76 = true := by kernel_rfl
theorem crH17r77_run : crH17run 71 crH17r77 = true := by kernel_rfl
theorem crH17r78_run : crH17run 85 crH17r78 = true := by kernel_rfl
theorem crH17r79_run : crH17run 15 crH17r79 = true := by kernel_rfl
theorem crH17r80_run : crH17run 85 crH17r80 = true := by kernel_rfl
theorem crH17r81_run : crH17run 70 crH17r81 = true := by kernel_rfl
theorem crH17r82_run : crH17run 71 crH17r82 = true := by kernel_rfl
theorem crH17r83_run : crH17run 85 crH17r83 = true := by kernel_rfl
theorem crH17r84_run : crH17run 15 crH17r84 = true := by kernel_rfl
theorem crH17r85_run : crH17run 85 crH17r85 = true := by kernel_rfl
theorem crH17r86_run : crH17run 70 crH17r86 = true := by kernel_rfl
theorem crH17r87_run : crH17run 71 crH17r87 = true := by kernel_rfl
theorem crH17r88_run : crH17run 85 crH17r88 = true := by kernel_rfl
theorem crH17r89_run : crH17run 15 crH17r89 = true := by kernel_rfl
theorem crH17r90_run : crH17run 85 crH17r90 = true := by kernel_rfl
theorem crH17r91_run : crH17run 70 crH17r91 = true := by kernel_rfl
theorem crH17r92_run : crH17run 71 crH17r92 = true := by kernel_rfl
theorem crH17r93_run : crH17run 85 crH17r93 = true := by kernel_rfl
theorem crH17r94_run : crH17run 15 crH17r94 = true := by kernel_rfl
theorem crH17r95_run : crH17run 85 crH17r95 = true := by kernel_rfl
theorem crH17r96_run : crH17run 70 crH17r96 = true := by kernel_rfl
theorem crH17r97_run : crH17run 71 crH17r97 = true := by kernel_rfl
theorem crH17r98_run : crH17run 85 crH17r98 = true := by kernel_rfl
theorem crH17r99_run : crH17run 15 crH17r99 = true := by kernel_rfl
theorem crH17r100_run : crH17run 85 crH17r100 = true := by kernel_rfl
theorem crH17r101_run : crH17run 70 crH17r101 = true := by kernel_rfl
theorem crH17r102_run : crH17run 71 crH17r102 = true := by kernel_rfl
theorem crH17r103_run : crH17run 85 crH17r103 = true := by kernel_rfl
theorem crH17r104_run : crH17run 15 crH17r104 = true := by kernel_rfl
theorem crH17r105_run : crH17run 85 crH17r105 = true := by kernel_rfl
theorem crH17r106_run : crH17run 70 crH17r106 = true := by kernel_rfl
theorem crH17r107_run : crH17run 71 crH17r107 = true := by kernel_rfl
theorem crH17r108_run : crH17run 85 crH17r108 = true := by kernel_rfl
theorem crH17r109_run : crH17run 15 crH17r109 = true := by kernel_rfl
theorem crH17r110_run : crH17run 85 crH17r110 = true := by kernel_rfl
theorem crH17r111_run : crH17run 70 crH17r111 = true := by kernel_rfl
theorem crH17r112_run : crH17run 71 crH17r112 = true := by kernel_rfl
theorem crH17r113_run : crH17run 85 crH17r113 = true := by kernel_rfl
theorem crH17r114_run : crH17run 15 crH17r114 = true := by kernel_rfl
theorem crH17r115_run : crH17run 85 crH17r115 = true := by kernel_rfl
theorem crH17r116_run : crH17run 70 crH17r116 = true := by kernel_rfl
theorem crH17r117_run : crH17run 71 crH17r117 = true := by kernel_rfl
theorem crH17r118_run : crH17run 85 crH17r118 = true := by kernel_rfl
theorem crH17r119_run : crH17run 15 crH17r119 = true := by kernel_rfl
theorem crH17r120_run : crH17run 85 crH17r120 = true := by kernel_rfl
theorem crH17r121_run : crH17run 70 crH17r121 = true := by kernel_rfl
theorem crH17r122_run : crH17run 71 crH17r122 = true := by kernel_rfl
theorem crH17r123_run : crH17run 85 crH17r123 = true := by kernel_rfl
theorem crH17r124_run : crH17run 15 crH17r124 = true := by kernel_rfl
theorem crH17r125_run : crH17run 85 crH17r125 = true := by kernel_rfl
theorem crH17r126_run : crH17run 70 crH17r126 = true := by kernel_rfl
theorem crH17r127_run : crH17run 71 crH17r127 = true := by kernel_rfl
theorem crH17r128_run : crH17run 85 crH17r128 = true := by kernel_rfl
theorem crH17r129_run : crH17run 15 crH17r129 = true := by kernel_rfl
theorem crH17r130_run : crH17run 85 crH17r130 = true := by kernel_rfl
theorem crH17r131_run : crH17run 70 crH17r131 = true := by kernel_rfl
theorem crH17r132_run : crH17run 71 crH17r132 = true := by kernel_rfl
theorem crH17r133_run : crH17run 15 crH17r133 = true := by kernel_rfl
theorem crH17r134_run : crH17run 85 crH17r134 = true := by kernel_rfl
theorem crH17r135_run : crH17run 85 crH17r135 = true := by kernel_rfl
theorem crH17r136_run : crH17run 85 crH17r136 = true := by kernel_rfl
theorem crH17r137_run : crH17run 85 crH17r137 = true := by kernel_rfl
theorem crH17r138_run : crH17run 85 crH17r138 = true := by kernel_rfl
theorem crH17r139_run : crH17run 85 crH17r139 = true := by kernel_rfl
theorem crH17r140_run : crH17run 85 crH17r140 = true := by kernel_rfl
theorem crH17r141_run : crH17run 85 crH17r141 = true := by kernel_rfl
theorem crH17r142_run : crH17run 85 crH17r142 = true := by kernel_rfl
theorem crH17r143_run : crH17run 85 crH17r143 = true := by kernel_rfl
theorem crH17r144_run : crH17run 85 crH17r144 = true := by kernel_rfl
theorem crH17r145_run : crH17run 85 crH17r145 = true := by kernel_rfl
theorem crH17r146_run : crH17run 85 crH17r146 = true := by kernel_rfl
theorem crH17r147_run : crH17run 85 crH17r147 = true := by kernel_rfl
theorem crH17r148_run : crH17run 85 crH17r148 = true := by kernel_rfl
theorem crH17r149_run : crH17run 85 crH17r149 = true := by kernel_rfl
theorem crH17r150_run : crH17run 85 crH17r150 = true := by kernel_rfl
theorem crH17r151_run : crH17run 85 crH17r151 = true := by kernel_rfl
theorem crH17r152_run : crH17run 85 crH17r152 = true := by kernel_rfl
theorem crH17r153_run : crH17run 85 crH17r153 = true := by kernel_rfl
theorem crH17r154_run : crH17run 85 crH17r154 = true := by kernel_rfl
theorem crH17r155_run : crH17run 85 crH17r155 = true := by kernel_rfl
theorem crH17r156_run : crH17run 85 crH17r156 = true := by kernel_rfl
theorem crH17r157_run : crH17run 85 crH17r157 = true := by kernel_rfl
theorem crH17r158_run : crH17run 85 crH17r158 = true := by kernel_rfl
theorem crH17r159_run : crH17run 85 crH17r159 = true := by kernel_rfl
theorem crH17r160_run : crH17run 85 crH17r160 = true := by kernel_rfl
theorem crH17r161_run : crH17run 85 crH17r161 = true := by kernel_rfl
theorem crH17r162_run : crH17run 85 crH17r162 = true := by kernel_rfl
theorem crH17r163_run : crH17run 85 crH17r163 = true := by kernel_rfl
theorem crH17r164_run : crH17run 85 crH17r164 = true := by kernel_rfl
theorem crH17r165_run : crH17run 85 crH17r165 = true := by kernel_rfl
theorem crH17r166_run : crH17run 85 crH17r166 = true := by kernel_rfl
theorem crH17r167_run : crH17run 85 crH17r167 = true := by kernel_rfl
theorem crH17r168_run : crH17run 85 crH17r168 = true := by kernel_rfl
theorem crH17r169_run : crH17run 85 crH17r169 = true := by kernel_rfl
theorem crH17r170_run : crH17run 85 crH17r170 = true := by kernel_rfl
theorem crH17r171_run : crH17run 85 crH17r171 = true := by kernel_rfl
theorem crH17r172_run : crH17run 15 crH17r172 = true := by kernel_rfl
theorem crH17r173_run : crH17run 15 crH17r173 = true := by kernel_rfl
end Go.Proofs.YtcgdnhkibjldjaaGreatDoor
