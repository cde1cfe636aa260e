/- Part of the proof that the law CheckRecursion answers true: calls within the longest evaluations. No condition. -/
import Derived.Test.YtcgdnhkibjldjaaGreatDoorCheckRecursionD
namespace Go.Proofs.YtcgdnhkibjldjaaGreatDoor
open Go Go.Sh
def crH16b0 : List (Nat × Nat × List SV) := [(155, 9, [.str 1 103, .str 1 104]), (224, 115, [.str 4 811678310, .int .i64 (0), .str 4 828455526, .int .i64 (0), .str 4 845232742, .int .i64 (0), .str 4 862009958, .int .i64 (0), .str 4 878787174, .int .i64 (0), .str 4 895564390, .int .i64 (0), .str 4 912341606, .int .i64 (0), .str 4 929118822, .int .i64 (0), .str 4 945896038, .int .i64 (0), .str 4 962673254, .int .i64 (0), .str 5 206986885734, .int .i64 (0), .str 5 211281853030, .int .i64 (0), .str 5 215576820326, .int .i64 (0), .str 5 219871787622, .int .i64 (0), .str 5 224166754918, .int .i64 (0), .str 5 228461722214, .int .i64 (0), .str 5 232756689510, .int .i64 (0)])]
def crH16b1 : List (Nat × Nat × List SV) := [(266, 49, [.nils, .nils])]
def crH16b2 : List (Nat × Nat × List SV) := [(149, 9, [.str 2 12404, .str 2 12660, .str 2 12916, .str 2 13172, .str 2 13428, .str 2 13684, .str 2 13940, .str 2 14196, .str 2 14452, .str 2 14708, .str 3 3158388, .str 3 3223924, .str 3 3289460, .str 3 3354996, .str 3 3420532, .str 3 3486068, .str 3 3551604])]
def crH16b3 : List (Nat × Nat × List SV) := [(270, 49, [.nils, .nils])]
def crH16b4 : List (Nat × Nat × List SV) := [(266, 9, [.str 1 103, .str 1 104]), (224, 115, [.str 4 811678310, .int .i64 (0), .str 4 828455526, .int .i64 (0), .str 4 845232742, .int .i64 (0), .str 4 862009958, .int .i64 (0), .str 4 878787174, .int .i64 (0), .str 4 895564390, .int .i64 (0), .str 4 912341606, .int .i64 (0), .str 4 929118822, .int .i64 (0), .str 4 945896038, .int .i64 (0), .str 4 962673254, .int .i64 (0), .str 5 206986885734, .int .i64 (0), .str 5 211281853030, .int .i64 (0), .str 5 215576820326, .int .i64 (0), .str 5 219871787622, .int .i64 (0), .str 5 224166754918, .int .i64 (0), .str 5 228461722214, .int .i64 (0), .str 5 232756689510, .int .i64 (0)])]
def crH16b5 : List (Nat × Nat × List SV) := [(267, 9, [.str 1 103, .str 1 104]), (224, 115, [.str 4 811678310, .int .i64 (0), .str 4 828455526, .int .i64 (0), .str 4 845232742, .int .i64 (0), .str 4 862009958, .int .i64 (0), .str 4 878787174, .int .i64 (0), .str 4 895564390, .int .i64 (0), .str 4 912341606, .int .i64 (0), .str 4 929118822, .int .i64 (0), .str 4 945896038, .int .i64 (0), .str 4 962673254, .int .i64 (0), .str 5 206986885734, .int .i64 (0), .str 5 211281853030, .int .i64 (0), .str 5 215576820326, .int .i64 (0), .str 5 219871787622, .int .i64 (0), .str 5 224166754918, .int .i64 (0), .str 5 228461722214, .int .i64 (0), .str 5 232756689510, .int .i64 (0)])]
def crH16b6 : List (Nat × Nat × List SV) := [(268, 9, [.str 1 103, .str 1 104]), (224, 115, [.str 4 811678310, .int .i64 (0), .str 4 828455526, .int .i64 (0), .str 4 845232742, .int .i64 (0), .str 4 862009958, .int .i64 (0), .str 4 878787174, .int .i64 (0), .str 4 895564390, .int .i64 (0), .str 4 912341606, .int .i64 (0), .str 4 929118822, .int .i64 (0), .str 4 945896038, .int .i64 (0), .str 4 962673254, .int .i64 (0), .str 5 206986885734, .int .i64 (0), .str 5 211281853030, .int .i64 (0), .str 5 215576820326, .int .i64 (0), .str 5 219871787622, .int .i64 (0), .str 5 224166754918, .int .i64 (0), .str 5 228461722214, .int .i64 (0), .str 5 232756689510, .int .i64 (0)])]
def crH16b7 : List (Nat × Nat × List SV) := [(269, 9, [.str 1 103, .str 1 104]), (224, 115, [.str 4 811678310, .int .i64 (0), .str 4 828455526, .int .i64 (0), .str 4 845232742, .int .i64 (0), .str 4 862009958, .int .i64 (0), .str 4 878787174, .int .i64 (0), .str 4 895564390, .int .i64 (0), .str 4 912341606, .int .i64 (0), .str 4 929118822, .int .i64 (0), .str 4 945896038, .int .i64 (0), .str 4 962673254, .int .i64 (0), .str 5 206986885734, .int .i64 (0), .str 5 211281853030, .int .i64 (0), .str 5 215576820326, .int .i64 (0), .str 5 219871787622, .int .i64 (0), .str 5 224166754918, .int .i64 (0), .str 5 228461722214, .int .i64 (0), .str 5 232756689510, .int .i64 (0)])]
def crH16b8 : List (Nat × Nat × List SV) := [(270, 9, [.str 1 103, .str 1 104]), (224, 115, [.str 4 811678310, .int .i64 (0), .str 4 828455526, .int .i64 (0), .str 4 845232742, .int .i64 (0), .str 4 862009958, .int .i64 (0), .str 4 878787174, .int .i64 (0), .str 4 895564390, .int .i64 (0), .str 4 912341606, .int .i64 (0), .str 4 929118822, .int .i64 (0), .str 4 945896038, .int .i64 (0), .str 4 962673254, .int .i64 (0), .str 5 206986885734, .int .i64 (0), .str 5 211281853030, .int .i64 (0), .str 5 215576820326, .int .i64 (0), .str 5 219871787622, .int .i64 (0), .str 5 224166754918, .int .i64 (0), .str 5 228461722214, .int .i64 (0), .str 5 232756689510, .int .i64 (0)])]
def crH16b9 : List (Nat × Nat × List SV) := [(271, 9, [.str 1 103, .str 1 104]), (224, 115, [.str 4 811678310, .int .i64 (0), .str 4 828455526, .int .i64 (0), .str 4 845232742, .int .i64 (0), .str 4 862009958, .int .i64 (0), .str 4 878787174, .int .i64 (0), .str 4 895564390, .int .i64 (0), .str 4 912341606, .int .i64 (0), .str 4 929118822, .int .i64 (0), .str 4 945896038, .int .i64 (0), .str 4 962673254, .int .i64 (0), .str 5 206986885734, .int .i64 (0), .str 5 211281853030, .int .i64 (0), .str 5 215576820326, .int .i64 (0), .str 5 219871787622, .int .i64 (0), .str 5 224166754918, .int .i64 (0), .str 5 228461722214, .int .i64 (0), .str 5 232756689510, .int .i64 (0)])]
def crH16b10 : List (Nat × Nat × List SV) := [(272, 9, [.str 1 103, .str 1 104]), (224, 115, [.str 4 811678310, .int .i64 (0), .str 4 828455526, .int .i64 (0), .str 4 845232742, .int .i64 (0), .str 4 862009958, .int .i64 (0), .str 4 878787174, .int .i64 (0), .str 4 895564390, .int .i64 (0), .str 4 912341606, .int .i64 (0), .str 4 929118822, .int .i64 (0), .str 4 945896038, .int .i64 (0), .str 4 962673254, .int .i64 (0), .str 5 206986885734, .int .i64 (0), .str 5 211281853030, .int .i64 (0), .str 5 215576820326, .int .i64 (0), .str 5 219871787622, .int .i64 (0), .str 5 224166754918, .int .i64 (0), .str 5 228461722214, .int .i64 (0), .str 5 232756689510, .int .i64 (0)])]
def crH16b11 : List (Nat × Nat × List SV) := [(273, 9, [.str 1 103, .str 1 104]), (224, 115, [.str 4 811678310, .int .i64 (0), .str 4 828455526, .int .i64 (0), .str 4 845232742, .int .i64 (0), .str 4 862009958, .int .i64 (0), .str 4 878787174, .int .i64 (0), .str 4 895564390, .int .i64 (0), .str 4 912341606, .int .i64 (0), .str 4 929118822, .int .i64 (0), .str 4 945896038, .int .i64 (0), .str 4 962673254, .int .i64 (0), .str 5 206986885734, .int .i64 (0), .str 5 211281853030, .int .i64 (0), .str 5 215576820326, .int .i64 (0), .str 5 219871787622, .int .i64 (0), .str 5 224166754918, .int .i64 (0), .str 5 228461722214, .int .i64 (0), .str 5 232756689510, .int .i64 (0)])]
def crH16b12 : List (Nat × Nat × List SV) := [(274, 9, [.str 1 103, .str 1 104]), (224, 115, [.str 4 811678310, .int .i64 (0), .str 4 828455526, .int .i64 (0), .str 4 845232742, .int .i64 (0), .str 4 862009958, .int .i64 (0), .str 4 878787174, .int .i64 (0), .str 4 895564390, .int .i64 (0), .str 4 912341606, .int .i64 (0), .str 4 929118822, .int .i64 (0), .str 4 945896038, .int .i64 (0), .str 4 962673254, .int .i64 (0), .str 5 206986885734, .int .i64 (0), .str 5 211281853030, .int .i64 (0), .str 5 215576820326, .int .i64 (0), .str 5 219871787622, .int .i64 (0), .str 5 224166754918, .int .i64 (0), .str 5 228461722214, .int .i64 (0), .str 5 232756689510, .int .i64 (0)])]
def crH16b13 : List (Nat × Nat × List SV) := [(275, 9, [.str 1 103, .str 1 104]), (224, 115, [.str 4 811678310, .int .i64 (0), .str 4 828455526, .int .i64 (0), .str 4 845232742, .int .i64 (0), .str 4 862009958, .int .i64 (0), .str 4 878787174, .int .i64 (0), .str 4 895564390, .int .i64 (0), .str 4 912341606, .int .i64 (0), .str 4 929118822, .int .i64 (0), .str 4 945896038, .int .i64 (0), .str 4 962673254, .int .i64 (0), .str 5 206986885734, .int .i64 (0), .str 5 211281853030, .int .i64 (0), .str 5 215576820326, .int .i64 (0), .str 5 219871787622, .int .i64 (0), .str 5 224166754918, .int .i64 (0), .str 5 228461722214, .int .i64 (0), .str 5 232756689510, .int .i64 (0)])]
def crH16b14 : List (Nat × Nat × List SV) := [(276, 9, [.str 1 103, .str 1 104]), (224, 115, [.str 4 811678310, .int .i64 (0), .str 4 828455526, .int .i64 (0), .str 4 845232742, .int .i64 (0), .str 4 862009958, .int .i64 (0), .str 4 878787174, .int .i64 (0), .str 4 895564390, .int .i64 (0), .str 4 912341606, .int .i64 (0), .str 4 929118822, .int .i64 (0), .str 4 945896038, .int .i64 (0), .str 4 962673254, .int .i64 (0), .str 5 206986885734, .int .i64 (0), .str 5 211281853030, .int .i64 (0), .str 5 215576820326, .int .i64 (0), .str 5 219871787622, .int .i64 (0), .str 5 224166754918, .int .i64 (0), .str 5 228461722214, .int .i64 (0), .str 5 232756689510, .int .i64 (0)])]
def crH16b15 : List (Nat × Nat × List SV) := [(277, 9, [.str 1 103, .str 1 104]), (224, 115, [.str 4 811678310, .int .i64 (0), .str 4 828455526, .int .i64 (0), .str 4 845232742, .int .i64 (0), .str 4 862009958, .int .i64 (0), .str 4 878787174, .int .i64 (0), .str 4 895564390, .int .i64 (0), .str 4 912341606, .int .i64 (0), .str 4 929118822, .int .i64 (0), .str 4 945896038, .int .i64 (0), .str 4 962673254, .int .i64 (0), .str 5 206986885734, .int .i64 (0), .str 5 211281853030, .int .i64 (0), .str 5 215576820326, .int .i64 (0), .str 5 219871787622, .int .i64 (0), .str 5 224166754918, .int .i64 (0), .str 5 228461722214, .int .i64 (0), .str 5 232756689510, .int .i64 (0)])]
def crH16b16 : List (Nat × Nat × List SV) := [(278, 9, [.str 1 103, .str 1 104]), (224, 115, [.str 4 811678310, .int .i64 (0), .str 4 828455526, .int .i64 (0), .str 4 845232742, .int .i64 (0), .str 4 862009958, .int .i64 (0), .str 4 878787174, .int .i64 (0), .str 4 895564390, .int .i64 (0), .str 4 912341606, .int .i64 (0), .str 4 929118822, .int .i64 (0), .str 4 945896038, .int .i64 (0), .str 4 962673254, .int .i64 (0), .str 5 206986885734, .int .i64 (0), .str 5 211281853030, .int .i64 (0), .str 5 215576820326, .int .i64 (0), .str 5 219871787622, .int .i64 (0), .str 5 224166754918, .int .i64 (0), .str 5 228461722214, .int .i64 (0), .str 5 232756689510, .int .i64 (0)])]
def crH16b17 : List (Nat × Nat × List SV) := [(279, 9, [.str 1 103, .str 1 104]), (224, 115, [.str 4 811678310, .int .i64 (0), .str 4 828455526, .int .i64 (0), .str 4 845232742, .int .i64 (0), .str 4 862009958, .int .i64 (0), .str 4 878787174, .int .i64 (0), .str 4 895564390, .int .i64 (0), .str 4 912341606, .int .i64 (0), .str 4 929118822, .int .i64 (0), .str 4 945896038, .int .i64 (0), .str 4 962673254, .int .i64 (0), .str 5 206986885734, .int .i64 (0), .str 5 211281853030, .int .i64 (0), .str 5 215576820326, .int .i64 (0), .str 5 219871787622, .int .i64 (0), .str 5 224166754918, .int .i64 (0), .str 5 228461722214, .int .i64 (0), .str 5 232756689510, .int .i64 (0)])]
def crH16b18 : List (Nat × Nat × List SV) := [(280, 9, [.str 1 103, .str 1 104]), (224, 115, [.str 4 811678310, .int .i64 (0), .str 4 828455526, .int .i64 (0), .str 4 845232742, .int .i64 (0), .str 4 862009958, .int .i64 (0), .str 4 878787174, .int .i64 (0), .str 4 895564390, .int .i64 (0), .str 4 912341606, .int .i64 (0), .str 4 929118822, .int .i64 (0), .str 4 945896038, .int .i64 (0), .str 4 962673254, .int .i64 (0), .str 5 206986885734, .int .i64 (0), .str 5 211281853030, .int .i64 (0), .str 5 215576820326, .int .i64 (0), .str 5 219871787622, .int .i64 (0), .str 5 224166754918, .int .i64 (0), .str 5 228461722214, .int .i64 (0), .str 5 232756689510, .int .i64 (0)])]
def crH16b19 : List (Nat × Nat × List SV) := [(281, 9, [.str 1 103, .str 1 104]), (224, 115, [.str 4 811678310, .int .i64 (0), .str 4 828455526, .int .i64 (0), .str 4 845232742, .int .i64 (0), .str 4 862009958, .int .i64 (0), .str 4 878787174, .int .i64 (0), .str 4 895564390, .int .i64 (0), .str 4 912341606, .int .i64 (0), .str 4 929118822, .int .i64 (0), .str 4 945896038, .int .i64 (0), .str 4 962673254, .int .i64 (0), .str 5 206986885734, .int .i64 (0), .str 5 211281853030, .int .i64 (0), .str 5 215576820326, .int .i64 (0), .str 5 219871787622, .int .i64 (0), .str 5 224166754918, .int .i64 (0), .str 5 228461722214, .int .i64 (0), .str 5 232756689510, .int .i64 (0)])]
def crH16b20 : List (Nat × Nat × List SV) := [(282, 9, [.str 1 103, .str 1 104]), (224, 115, [.str 4 811678310, .int .i64 (0), .str 4 828455526, .int .i64 (0), .str 4 845232742, .int .i64 (0), .str 4 862009958, .int .i64 (0), .str 4 878787174, .int .i64 (0), .str 4 895564390, .int .i64 (0), .str 4 912341606, .int .i64 (0), .str 4 929118822, .int .i64 (0), .str 4 945896038, .int .i64 (0), .str 4 962673254, .int .i64 (0), .str 5 206986885734, .int .i64 (0), .str 5 211281853030, .int .i64 (0), .str 5 215576820326, .int .i64 (0), .str 5 219871787622, .int .i64 (0), .str 5 224166754918, .int .i64 (0), .str 5 228461722214, .int .i64 (0), .str 5 232756689510, .int .i64 (0)])]
def crH16b21 : List (Nat × Nat × List SV) := [(285, 49, [.nils, .nils])]
def crH16b22 : List (Nat × Nat × List SV) := [(289, 49, [.nils, .nils])]
def crH16b23 : List (Nat × Nat × List SV) := [(286, 49, [.nils, .nils])]
def crH16b24 : List (Nat × Nat × List SV) := [(290, 49, [.nils, .nils])]
def crH16b25 : List (Nat × Nat × List SV) := [(287, 49, [.nils, .nils])]
def crH16b26 : List (Nat × Nat × List SV) := [(291, 49, [.nils, .nils])]
def crH16b27 : List (Nat × Nat × List SV) := [(288, 49, [.nils, .nils])]
def crH16b28 : List (Nat × Nat × List SV) := [(292, 49, [.nils, .nils])]
def crH16b29 : List (Nat × Nat × List SV) := [(293, 49, [.nils, .nils])]
def crH16b30 : List (Nat × Nat × List SV) := [(294, 49, [.nils, .nils])]
def crH16b31 : List (Nat × Nat × List SV) := [(295, 49, [.nils, .nils])]
def crH16b32 : List (Nat × Nat × List SV) := [(296, 49, [.nils, .nils])]
def crH16b33 : List (Nat × Nat × List SV) := [(297, 49, [.nils, .nils])]
def crH16b34 : List (Nat × Nat × List SV) := [(298, 49, [.nils, .nils])]
def crH16b35 : List (Nat × Nat × List SV) := [(299, 49, [.nils, .nils])]
def crH16b36 : List (Nat × Nat × List SV) := [(300, 49, [.nils, .nils])]
def crH16b37 : List (Nat × Nat × List SV) := [(301, 49, [.nils, .nils])]
def crH16b38 : List (Nat × Nat × List SV) := [(302, 49, [.nils, .nils])]
def crH16b39 : List (Nat × Nat × List SV) := [(303, 49, [.nils, .nils])]
def crH16b40 : List (Nat × Nat × List SV) := [(304, 49, [.nils, .nils])]
def crH16b41 : List (Nat × Nat × List SV) := [(305, 49, [.nils, .nils])]
def crH16b42 : List (Nat × Nat × List SV) := [(713, 49, [.nils, .nils])]
def crH16b43 : List (Nat × Nat × List SV) := [(720, 49, [.nils, .nils])]
def crH16b44 : List (Nat × Nat × List SV) := [(728, 49, [.nils, .nils])]
def crH16b45 : List (Nat × Nat × List SV) := [(737, 49, [.nils, .nils])]
def crH16b46 : List (Nat × Nat × List SV) := [(747, 49, [.nils, .nils])]
def crH16b47 : List (Nat × Nat × List SV) := [(758, 49, [.nils, .nils])]
def crH16b48 : List (Nat × Nat × List SV) := [(770, 49, [.nils, .nils])]
def crH16b49 : List (Nat × Nat × List SV) := [(783, 49, [.nils, .nils])]
def crH16b50 : List (Nat × Nat × List SV) := [(797, 49, [.nils, .nils])]
def crH16b51 : List (Nat × Nat × List SV) := [(812, 49, [.nils, .nils])]
def crH16b52 : List (Nat × Nat × List SV) := [(828, 49, [.nils, .nils])]
def crH16b53 : List (Nat × Nat × List SV) := [(845, 49, [.nils, .nils])]
def crH16b54 : List (Nat × Nat × List SV) := [(863, 49, [.nils, .nils])]
def crH16b55 : List (Nat × Nat × List SV) := [(882, 49, [.nils, .nils])]
def crH16b56 : List (Nat × Nat × List SV) := [(902, 49, [.nils, .nils])]
def crH16b57 : List (Nat × Nat × List SV) := [(923, 49, [.nils, .nils])]
def crH16b58 : List (Nat × Nat × List SV) := [(945, 49, [.nils, .nils])]
def crH16b59 : List (Nat × Nat × List SV) := [(968, 49, [.nils, .nils])]
def crH16b60 : List (Nat × Nat × List SV) := [(973, 49, [.nils, .nils])]
def crH16b61 : List (Nat × Nat × List SV) := [(1372, 49, [.nils, .nils])]
def crH16b62 : List (Nat × Nat × List SV) := [(1381, 49, [.nils, .nils])]
def crH16b63 : List (Nat × Nat × List SV) := [(1391, 49, [.nils, .nils])]
def crH16b64 : List (Nat × Nat × List SV) := [(1402, 49, [.nils, .nils])]
def crH16b65 : List (Nat × Nat × List SV) := [(1414, 49, [.nils, .nils])]
def crH16b66 : List (Nat × Nat × List SV) := [(1427, 49, [.nils, .nils])]
def crH16b67 : List (Nat × Nat × List SV) := [(1441, 49, [.nils, .nils])]
def crH16b68 : List (Nat × Nat × List SV) := [(1456, 49, [.nils, .nils])]
def crH16b69 : List (Nat × Nat × List SV) := [(1472, 49, [.nils, .nils])]
def crH16b70 : List (Nat × Nat × List SV) := [(1489, 49, [.nils, .nils])]
def crH16b71 : List (Nat × Nat × List SV) := [(1507, 49, [.nils, .nils])]
def crH16b72 : List (Nat × Nat × List SV) := [(1526, 49, [.nils, .nils])]
def crH16b73 : List (Nat × Nat × List SV) := [(1546, 49, [.nils, .nils])]
def crH16b74 : List (Nat × Nat × List SV) := [(1567, 49, [.nils, .nils])]
def crH16b75 : List (Nat × Nat × List SV) := [(1589, 49, [.nils, .nils])]
def crH16b76 : List (Nat × Nat × List SV) := [(1612, 49, [.nils, .nils])]
def crH16b77 : List (Nat × Nat × List SV) := [(1636, 49, [.nils, .nils])]
def crH16b78 : List (Nat × Nat × List SV) := [(1648, 9, [.str 1 103])]
def crH16r0 : KRow := ⟨265, [.agg [.int .i64 (19), .str 0 0, .str 4 811678310, .int .i64 (0), .int .i64 (0), .str 0 0, .int .i64 (0), .int .i64 (0), .str 0 0, .int .i64 (0), .int .i64 (0), .int .i64 (0), .str 0 0, .str 0 0, .nils, .nils], .slo 155 0 2 1, .slo 224 0 17 2], crH16b0, .int .i64 (0), none⟩
def crH16r1 : KRow := ⟨265, [.ptr 96 0, .agg [.int .i64 (19), .str 0 0, .str 4 811678310, .int .i64 (0), .int .i64 (0), .str 0 0, .int .i64 (0), .int .i64 (0), .str 0 0, .int .i64 (0), .int .i64 (0), .int .i64 (0), .str 0 0, .str 0 0, .nils, .nils]], [], .bool true, none⟩
def crH16r2 : KRow := ⟨267, [.slc 266 0 2 2], crH16b1, .nils, none⟩
def crH16r3 : KRow := ⟨269, [.slo 149 0 17 1, .str 2 12404], crH16b2, .bool true, none⟩
def crH16r4 : KRow := ⟨271, [.slc 270 0 2 2], crH16b3, .nils, none⟩
def crH16r5 : KRow := ⟨273, [.agg [.int .i64 (1), .str 0 0, .str 1 103, .int .i64 (0), .int .i64 (0), .str 0 0, .int .i64 (0), .int .i64 (0), .str 0 0, .int .i64 (0), .int .i64 (0), .int .i64 (0), .str 0 0, .str 0 0, .nils, .nils], .slo 155 0 2 1, .slo 224 0 17 2], crH16b0, .int .i64 (0), none⟩
def crH16r6 : KRow := ⟨273, [.ptr 96 0, .agg [.int .i64 (1), .str 0 0, .str 1 103, .int .i64 (0), .int .i64 (0), .str 0 0, .int .i64 (0), .int .i64 (0), .str 0 0, .int .i64 (0), .int .i64 (0), .int .i64 (0), .str 0 0, .str 0 0, .nils, .nils]], [], .bool true, none⟩
def crH16r7 : KRow := ⟨269, [.agg [.int .i64 (19), .str 0 0, .str 4 828455526, .int .i64 (0), .int .i64 (0), .str 0 0, .int .i64 (0), .int .i64 (0), .str 0 0, .int .i64 (0), .int .i64 (0), .int .i64 (0), .str 0 0, .str 0 0, .nils, .nils], .slo 266 0 2 1, .slo 224 0 17 2], crH16b4, .int .i64 (0), none⟩
def crH16r8 : KRow := ⟨269, [.ptr 96 0, .agg [.int .i64 (19), .str 0 0, .str 4 828455526, .int .i64 (0), .int .i64 (0), .str 0 0, .int .i64 (0), .int .i64 (0), .str 0 0, .int .i64 (0), .int .i64 (0), .int .i64 (0), .str 0 0, .str 0 0, .nils, .nils]], [], .bool true, none⟩
def crH16r9 : KRow := ⟨270, [.agg [.int .i64 (19), .str 0 0, .str 4 845232742, .int .i64 (0), .int .i64 (0), .str 0 0, .int .i64 (0), .int .i64 (0), .str 0 0, .int .i64 (0), .int .i64 (0), .int .i64 (0), .str 0 0, .str 0 0, .nils, .nils], .slo 267 0 2 1, .slo 224 0 17 2], crH16b5, .int .i64 (0), none⟩
def crH16r10 : KRow := ⟨270, [.ptr 96 0, .agg [.int .i64 (19), .str 0 0, .str 4 845232742, .int .i64 (0), .int .i64 (0), .str 0 0, .int .i64 (0), .int .i64 (0), .str 0 0, .int .i64 (0), .int .i64 (0), .int .i64 (0), .str 0 0, .str 0 0, .nils, .nils]], [], .bool true, none⟩
def crH16r11 : KRow := ⟨271, [.agg [.int .i64 (19), .str 0 0, .str 4 862009958, .int .i64 (0), .int .i64 (0), .str 0 0, .int .i64 (0), .int .i64 (0), .str 0 0, .int .i64 (0), .int .i64 (0), .int .i64 (0), .str 0 0, .str 0 0, .nils, .nils], .slo 268 0 2 1, .slo 224 0 17 2], crH16b6, .int .i64 (0), none⟩
def crH16r12 : KRow := ⟨271, [.ptr 96 0, .agg [.int .i64 (19), .str 0 0, .str 4 862009958, .int .i64 (0), .int .i64 (0), .str 0 0, .int .i64 (0), .int .i64 (0), .str 0 0, .int .i64 (0), .int .i64 (0), .int .i64 (0), .str 0 0, .str 0 0, .nils, .nils]], [], .bool true, none⟩
def crH16r13 : KRow := ⟨272, [.agg [.int .i64 (19), .str 0 0, .str 4 878787174, .int .i64 (0), .int .i64 (0), .str 0 0, .int .i64 (0), .int .i64 (0), .str 0 0, .int .i64 (0), .int .i64 (0), .int .i64 (0), .str 0 0, .str 0 0, .nils, .nils], .slo 269 0 2 1, .slo 224 0 17 2], crH16b7, .int .i64 (0), none⟩
def crH16r14 : KRow := ⟨272, [.ptr 96 0, .agg [.int .i64 (19), .str 0 0, .str 4 878787174, .int .i64 (0), .int .i64 (0), .str 0 0, .int .i64 (0), .int .i64 (0), .str 0 0, .int .i64 (0), .int .i64 (0), .int .i64 (0), .str 0 0, .str 0 0, .nils, .nils]], [], .bool true, none⟩
def crH16r15 : KRow := ⟨273, [.agg [.int .i64 (19), .str 0 0, .str 4 895564390, .int .i64 (0), .int .i64 (0), .str 0 0, .int .i64 (0), .int .i64 (0), .str 0 0, .int .i64 (0), .int .i64 (0), .int .i64 (0), .str 0 0, .str 0 0, .nils, .nils], .slo 270 0 2 1, .slo 224 0 17 2], crH16b8, .int .i64 (0), none⟩
def crH16r16 : KRow := ⟨273, [.ptr 96 0, .agg [.int .i64 (19), .str 0 0, .str 4 895564390, .int .i64 (0), .int .i64 (0), .str 0 0, .int .i64 (0), .int .i64 (0), .str 0 0, .int .i64 (0), .int .i64 (0), .int .i64 (0), .str 0 0, .str 0 0, .nils, .nils]], [], .bool true, none⟩
def crH16r17 : KRow := ⟨274, [.agg [.int .i64 (19), .str 0 0, .str 4 912341606, .int .i64 (0), .int .i64 (0), .str 0 0, .int .i64 (0), .int .i64 (0), .str 0 0, .int .i64 (0), .int .i64 (0), .int .i64 (0), .str 0 0, .str 0 0, .nils, .nils], .slo 271 0 2 1, .slo 224 0 17 2], crH16b9, .int .i64 (0), none⟩
def crH16r18 : KRow := ⟨274, [.ptr 96 0, .agg [.int .i64 (19), .str 0 0, .str 4 912341606, .int .i64 (0), .int .i64 (0), .str 0 0, .int .i64 (0), .int .i64 (0), .str 0 0, .int .i64 (0), .int .i64 (0), .int .i64 (0), .str 0 0, .str 0 0, .nils, .nils]], [], .bool true, none⟩
def crH16r19 : KRow := ⟨275, [.agg [.int .i64 (19), .str 0 0, .str 4 929118822, .int .i64 (0), .int .i64 (0), .str 0 0, .int .i64 (0), .int .i64 (0), .str 0 0, .int .i64 (0), .int .i64 (0), .int .i64 (0), .str 0 0, .str 0 0, .nils, .nils], .slo 272 0 2 1, .slo 224 0 17 2], crH16b10, .int .i64 (0), none⟩
def crH16r20 : KRow := ⟨275, [.ptr 96 0, .agg [.int .i64 (19), .str 0 0, .str 4 929118822, .int .i64 (0), .int .i64 (0), .str 0 0, .int .i64 (0), .int .i64 (0), .str 0 0, .int .i64 (0), .int .i64 (0), .int .i64 (0), .str 0 0, .str 0 0, .nils, .nils]], [], .bool true, none⟩
def crH16r21 : KRow := ⟨276, [.agg [.int .i64 (19), .str 0 0, .str 4 945896038, .int .i64 (0), .int .i64 (0), .str 0 0, .int .i64 (0), .int .i64 (0), .str 0 0, .int .i64 (0), .int .i64 (0), .int .i64 (0), .str 0 0, .str 0 0, .nils, .nils], .slo 273 0 2 1, .slo 224 0 17 2], crH16b11, .int .i64 (0), none⟩
def crH16r22 : KRow := ⟨276, [.ptr 96 0, .agg [.int .i64 (19), .str 0 0, .str 4 945896038, .int .i64 (0), .int .i64 (0), .str 0 0, .int .i64 (0), .int .i64 (0), .str 0 0, .int .i64 (0), .int .i64 (0), .int .i64 (0), .str 0 0, .str 0 0, .nils, .nils]], [], .bool true, none⟩
def crH16r23 : KRow := ⟨277, [.agg [.int .i64 (19), .str 0 0, .str 4 962673254, .int .i64 (0), .int .i64 (0), .str 0 0, .int .i64 (0), .int .i64 (0), .str 0 0, .int .i64 (0), .int .i64 (0), .int .i64 (0), .str 0 0, .str 0 0, .nils, .nils], .slo 274 0 2 1, .slo 224 0 17 2], crH16b12, .int .i64 (0), none⟩
def crH16r24 : KRow := ⟨277, [.ptr 96 0, .agg [.int .i64 (19), .str 0 0, .str 4 962673254, .int .i64 (0), .int .i64 (0), .str 0 0, .int .i64 (0), .int .i64 (0), .str 0 0, .int .i64 (0), .int .i64 (0), .int .i64 (0), .str 0 0, .str 0 0, .nils, .nils]], [], .bool true, none⟩
def crH16r25 : KRow := ⟨278, [.agg [.int .i64 (19), .str 0 0, .str 5 206986885734, .int .i64 (0), .int .i64 (0), .str 0 0, .int .i64 (0), .int .i64 (0), .str 0 0, .int .i64 (0), .int .i64 (0), .int .i64 (0), .str 0 0, .str 0 0, .nils, .nils], .slo 275 0 2 1, .slo 224 0 17 2], crH16b13, .int .i64 (0), none⟩
def crH16r26 : KRow := ⟨278, [.ptr 96 0, .agg [.int .i64 (19), .str 0 0, .str 5 206986885734, .int .i64 (0), .int .i64 (0), .str 0 0, .int .i64 (0), .int .i64 (0), .str 0 0, .int .i64 (0), .int .i64 (0), .int .i64 (0), .str 0 0, .str 0 0, .nils, .nils]], [], .bool true, none⟩
def crH16r27 : KRow := ⟨279, [.agg [.int .i64 (19), .str 0 0, .str 5 211281853030, .int .i64 (0), .int .i64 (0), .str 0 0, .int .i64 (0), .int .i64 (0), .str 0 0, .int .i64 (0), .int .i64 (0), .int .i64 (0), .str 0 0, .str 0 0, .nils, .nils], .slo 276 0 2 1, .slo 224 0 17 2], crH16b14, .int .i64 (0), none⟩
def crH16r28 : KRow := ⟨279, [.ptr 96 0, .agg [.int .i64 (19), .str 0 0, .str 5 211281853030, .int .i64 (0), .int .i64 (0), .str 0 0, .int .i64 (0), .int .i64 (0), .str 0 0, .int .i64 (0), .int .i64 (0), .int .i64 (0), .str 0 0, .str 0 0, .nils, .nils]], [], .bool true, none⟩
def crH16r29 : KRow := ⟨280, [.agg [.int .i64 (19), .str 0 0, .str 5 215576820326, .int .i64 (0), .int .i64 (0), .str 0 0, .int .i64 (0), .int .i64 (0), .str 0 0, .int .i64 (0), .int .i64 (0), .int .i64 (0), .str 0 0, .str 0 0, .nils, .nils], .slo 277 0 2 1, .slo 224 0 17 2], crH16b15, .int .i64 (0), none⟩
def crH16r30 : KRow := ⟨280, [.ptr 96 0, .agg [.int .i64 (19), .str 0 0, .str 5 215576820326, .int .i64 (0), .int .i64 (0), .str 0 0, .int .i64 (0), .int .i64 (0), .str 0 0, .int .i64 (0), .int .i64 (0), .int .i64 (0), .str 0 0, .str 0 0, .nils, .nils]], [], .bool true, none⟩
def crH16r31 : KRow := ⟨281, [.agg [.int .i64 (19), .str 0 0, .str 5 219871787622, .int .i64 (0), .int .i64 (0), .str 0 0, .int .i64 (0), .int .i64 (0), .str 0 0, .int .i64 (0), .int .i64 (0), .int .i64 (0), .str 0 0, .str 0 0, .nils, .nils], .slo 278 0 2 1, .slo 224 0 17 2], crH16b16, .int .i64 (0), none⟩
def crH16r32 : KRow := ⟨281, [.ptr 96 0, .agg [.int .i64 (19), .str 0 0, .str 5 219871787622, .int .i64 (0), .int .i64 (0), .str 0 0, .int .i64 (0), .int .i64 (0), .str 0 0, .int .i64 (0), .int .i64 (0), .int .i64 (0), .str 0 0, .str 0 0, .nils, .nils]], [], .bool true, none⟩
def crH16r33 : KRow := ⟨282, [.agg [.int .i64 (19), .str 0 0, .str 5 224166754918, .int .i64 (0), .int .i64 (0), .str 0 0, .int .i64 (0), .int .i64 (0), .str 0 0, .int .i64 (0), .int .i64 (0), .int .i64 (0), .str 0 0, .str 0 0, .nils, .nils], .slo 279 0 2 1, .slo 224 0 17 2], crH16b17, .int .i64 (0), none⟩
def crH16r34 : KRow := ⟨282, [.ptr 96 0, .agg [.int .i64 (19), .str 0 0, .str 5 224166754918, .int .i64 (0), .int .i64 (0), .str 0 0, .int .i64 (0), .int .i64 (0), .str 0 0, .int .i64 (0), .int .i64 (0), .int .i64 (0), .str 0 0, .str 0 0, .nils, .nils]], [], .bool true, none⟩
def crH16r35 : KRow := ⟨283, [.agg [.int .i64 (19), .str 0 0, .str 5 228461722214, .int .i64 (0), .int .i64 (0), .str 0 0, .int .i64 (0), .int .i64 (0), .str 0 0, .int .i64 (0), .int .i64 (0), .int .i64 (0), .str 0 0, .str 0 0, .nils, .nils], .slo 280 0 2 1, .slo 224 0 17 2], crH16b18, .int .i64 (0), none⟩
def crH16r36 : KRow := ⟨283, [.ptr 96 0, .agg [.int .i64 (19), .str 0 0, .str 5 228461722214, .int .i64 (0), .int .i64 (0), .str 0 0, .int .i64 (0), .int .i64 (0), .str 0 0, .int .i64 (0), .int .i64 (0), .int .i64 (0), .str 0 0, .str 0 0, .nils, .nils]], [], .bool true, none⟩
def crH16r37 : KRow := ⟨284, [.agg [.int .i64 (19), .str 0 0, .str 5 232756689510, .int .i64 (0), .int .i64 (0), .str 0 0, .int .i64 (0), .int .i64 (0), .str 0 0, .int .i64 (0), .int .i64 (0), .int .i64 (0), .str 0 0, .str 0 0, .nils, .nils], .slo 281 0 2 1, .slo 224 0 17 2], crH16b19, .int .i64 (0), none⟩
def crH16r38 : KRow := ⟨284, [.ptr 96 0, .agg [.int .i64 (19), .str 0 0, .str 5 232756689510, .int .i64 (0), .int .i64 (0), .str 0 0, .int .i64 (0), .int .i64 (0), .str 0 0, .int .i64 (0), .int .i64 (0), .int .i64 (0), .str 0 0, .str 0 0, .nils, .nils]], [], .bool true, none⟩
def crH16r39 : KRow := ⟨285, [.agg [.int .i64 (19), .str 0 0, .str 4 811678310, .int .i64 (0), .int .i64 (0), .str 0 0, .int .i64 (0), .int .i64 (0), .str 0 0, .int .i64 (0), .int .i64 (0), .int .i64 (0), .str 0 0, .str 0 0, .nils, .nils], .slo 282 0 2 1, .slo 224 0 17 2], crH16b20, .int .i64 (0), none⟩
def crH16r40 : KRow := ⟨285, [.ptr 96 0, .agg [.int .i64 (19), .str 0 0, .str 4 811678310, .int .i64 (0), .int .i64 (0), .str 0 0, .int .i64 (0), .int .i64 (0), .str 0 0, .int .i64 (0), .int .i64 (0), .int .i64 (0), .str 0 0, .str 0 0, .nils, .nils]], [], .bool true, none⟩
def crH16r41 : KRow := ⟨286, [.slc 285 0 2 2], crH16b21, .nils, none⟩
def crH16r42 : KRow := ⟨288, [.slo 149 0 17 1, .str 2 12660], crH16b2, .bool true, none⟩
def crH16r43 : KRow := ⟨290, [.slc 289 0 2 2], crH16b22, .nils, none⟩
def crH16r44 : KRow := ⟨292, [.agg [.int .i64 (19), .str 0 0, .str 4 828455526, .int .i64 (0), .int .i64 (0), .str 0 0, .int .i64 (0), .int .i64 (0), .str 0 0, .int .i64 (0), .int .i64 (0), .int .i64 (0), .str 0 0, .str 0 0, .nils, .nils], .slo 155 0 2 1, .slo 224 0 17 2], crH16b0, .int .i64 (0), none⟩
def crH16r45 : KRow := ⟨292, [.ptr 96 0, .agg [.int .i64 (19), .str 0 0, .str 4 828455526, .int .i64 (0), .int .i64 (0), .str 0 0, .int .i64 (0), .int .i64 (0), .str 0 0, .int .i64 (0), .int .i64 (0), .int .i64 (0), .str 0 0, .str 0 0, .nils, .nils]], [], .bool true, none⟩
def crH16r46 : KRow := ⟨287, [.slc 286 0 2 2], crH16b23, .nils, none⟩
def crH16r47 : KRow := ⟨289, [.slo 149 0 17 1, .str 2 12916], crH16b2, .bool true, none⟩
def crH16r48 : KRow := ⟨291, [.slc 290 0 2 2], crH16b24, .nils, none⟩
def crH16r49 : KRow := ⟨293, [.agg [.int .i64 (19), .str 0 0, .str 4 845232742, .int .i64 (0), .int .i64 (0), .str 0 0, .int .i64 (0), .int .i64 (0), .str 0 0, .int .i64 (0), .int .i64 (0), .int .i64 (0), .str 0 0, .str 0 0, .nils, .nils], .slo 155 0 2 1, .slo 224 0 17 2], crH16b0, .int .i64 (0), none⟩
def crH16r50 : KRow := ⟨293, [.ptr 96 0, .agg [.int .i64 (19), .str 0 0, .str 4 845232742, .int .i64 (0), .int .i64 (0), .str 0 0, .int .i64 (0), .int .i64 (0), .str 0 0, .int .i64 (0), .int .i64 (0), .int .i64 (0), .str 0 0, .str 0 0, .nils, .nils]], [], .bool true, none⟩
def crH16r51 : KRow := ⟨288, [.slc 287 0 2 2], crH16b25, .nils, none⟩
def crH16r52 : KRow := ⟨290, [.slo 149 0 17 1, .str 2 13172], crH16b2, .bool true, none⟩
def crH16r53 : KRow := ⟨292, [.slc 291 0 2 2], crH16b26, .nils, none⟩
def crH16r54 : KRow := ⟨294, [.agg [.int .i64 (19), .str 0 0, .str 4 862009958, .int .i64 (0), .int .i64 (0), .str 0 0, .int .i64 (0), .int .i64 (0), .str 0 0, .int .i64 (0), .int .i64 (0), .int .i64 (0), .str 0 0, .str 0 0, .nils, .nils], .slo 155 0 2 1, .slo 224 0 17 2], crH16b0, .int .i64 (0), none⟩
def crH16r55 : KRow := ⟨294, [.ptr 96 0, .agg [.int .i64 (19), .str 0 0, .str 4 862009958, .int .i64 (0), .int .i64 (0), .str 0 0, .int .i64 (0), .int .i64 (0), .str 0 0, .int .i64 (0), .int .i64 (0), .int .i64 (0), .str 0 0, .str 0 0, .nils, .nils]], [], .bool true, none⟩
def crH16r56 : KRow := ⟨289, [.slc 288 0 2 2], crH16b27, .nils, none⟩
def crH16r57 : KRow := ⟨291, [.slo 149 0 17 1, .str 2 13428], crH16b2, .bool true, none⟩
def crH16r58 : KRow := ⟨293, [.slc 292 0 2 2], crH16b28, .nils, none⟩
def crH16r59 : KRow := ⟨295, [.agg [.int .i64 (19), .str 0 0, .str 4 878787174, .int .i64 (0), .int .i64 (0), .str 0 0, .int .i64 (0), .int .i64 (0), .str 0 0, .int .i64 (0), .int .i64 (0), .int .i64 (0), .str 0 0, .str 0 0, .nils, .nils], .slo 155 0 2 1, .slo 224 0 17 2], crH16b0, .int .i64 (0), none⟩
def crH16r60 : KRow := ⟨295, [.ptr 96 0, .agg [.int .i64 (19), .str 0 0, .str 4 878787174, .int .i64 (0), .int .i64 (0), .str 0 0, .int .i64 (0), .int .i64 (0), .str 0 0, .int .i64 (0), .int .i64 (0), .int .i64 (0), .str 0 0, .str 0 0, .nils, .nils]], [], .bool true, none⟩
def crH16r61 : KRow := ⟨290, [.slc 289 0 2 2], crH16b22, .nils, none⟩
def crH16r62 : KRow := ⟨292, [.slo 149 0 17 1, .str 2 13684], crH16b2, .bool true, none⟩
def crH16r63 : KRow := ⟨294, [.slc 293 0 2 2], crH16b29, .nils, none⟩
def crH16r64 : KRow := ⟨296, [.agg [.int .i64 (19), .str 0 0, .str 4 895564390, .int .i64 (0), .int .i64 (0), .str 0 0, .int .i64 (0), .int .i64 (0), .str 0 0, .int .i64 (0), .int .i64 (0), .int .i64 (0), .str 0 0, .str 0 0, .nils, .nils], .slo 155 0 2 1, .slo 224 0 17 2], crH16b0, .int .i64 (0), none⟩
def crH16r65 : KRow := ⟨296, [.ptr 96 0, .agg [.int .i64 (19), .str 0 0, .str 4 895564390, .int .i64 (0), .int .i64 (0), .str 0 0, .int .i64 (0), .int .i64 (0), .str 0 0, .int .i64 (0), .int .i64 (0), .int .i64 (0), .str 0 0, .str 0 0, .nils, .nils]], [], .bool true, none⟩
def crH16r66 : KRow := ⟨291, [.slc 290 0 2 2], crH16b24, .nils, none⟩
def crH16r67 : KRow := ⟨293, [.slo 149 0 17 1, .str 2 13940], crH16b2, .bool true, none⟩
def crH16r68 : KRow := ⟨295, [.slc 294 0 2 2], crH16b30, .nils, none⟩
def crH16r69 : KRow := ⟨297, [.agg [.int .i64 (19), .str 0 0, .str 4 912341606, .int .i64 (0), .int .i64 (0), .str 0 0, .int .i64 (0), .int .i64 (0), .str 0 0, .int .i64 (0), .int .i64 (0), .int .i64 (0), .str 0 0, .str 0 0, .nils, .nils], .slo 155 0 2 1, .slo 224 0 17 2], crH16b0, .int .i64 (0), none⟩
def crH16r70 : KRow := ⟨297, [.ptr 96 0, .agg [.int .i64 (19), .str 0 0, .str 4 912341606, .int .i64 (0), .int .i64 (0), .str 0 0, .int .i64 (0), .int .i64 (0), .str 0 0, .int .i64 (0), .int .i64 (0), .int .i64 (0), .str 0 0, .str 0 0, .nils, .nils]], [], .bool true, none⟩
def crH16r71 : KRow := ⟨292, [.slc 291 0 2 2], crH16b26, .nils, none⟩
def crH16r72 : KRow := ⟨294, [.slo 149 0 17 1, .str 2 14196], crH16b2, .bool true, none⟩
def crH16r73 : KRow := ⟨296, [.slc 295 0 2 2], crH16b31, .nils, none⟩
def crH16r74 : KRow := ⟨298, [.agg [.int .i64 (19), .str 0 0, .str 4 929118822, .int .i64 (0), .int .i64 (0), .str 0 0, .int .i64 (0), .int .i64 (0), .str 0 0, .int .i64 (0), .int .i64 (0), .int .i64 (0), .str 0 0, .str 0 0, .nils, .nils], .slo 155 0 2 1, .slo 224 0 17 2], crH16b0, .int .i64 (0), none⟩
def crH16r75 : KRow := ⟨298, [.ptr 96 0, .agg [.int .i64 (19), .str 0 0, .str 4 929118822, .int .i64 (0), .int .i64 (0), .str 0 0, .int .i64 (0), .int .i64 (0), .str 0 0, .int .i64 (0), .int .i64 (0), .int .i64 (0), .str 0 0, .str 0 0, .nils, .nils]], [], .bool true, none⟩
def crH16r76 : KRow := ⟨293, [.slc 292 0 2 2], crH16b28, .nils, none⟩
def crH16r77 : KRow := ⟨295, [.slo 149 0 17 1, .str 2 14452], crH16b2, .bool true, none⟩
def crH16r78 : KRow := ⟨297, [.slc 296 0 2 2], crH16b32, .nils, none⟩
def crH16r79 : KRow := ⟨299, [.agg [.int .i64 (19), .str 0 0, .str 4 945896038, .int .i64 (0), .int .i64 (0), .str 0 0, .int .i64 (0), .int .i64 (0), .str 0 0, .int .i64 (0), .int .i64 (0), .int .i64 (0), .str 0 0, .str 0 0, .nils, .nils], .slo 155 0 2 1, .slo 224 0 17 2], crH16b0, .int .i64 (0), none⟩
def crH16r80 : KRow := ⟨299, [.ptr 96 0, .agg [.int .i64 (19), .str 0 0, .str 4 945896038, .int .i64 (0), .int .i64 (0), .str 0 0, .int .i64 (0), .int .i64 (0), .str 0 0, .int .i64 (0), .int .i64 (0), .int .i64 (0), .str 0 0, .str 0 0, .nils, .nils]], [], .bool true, none⟩
def crH16r81 : KRow := ⟨294, [.slc 293 0 2 2], crH16b29, .nils, none⟩
def crH16r82 : KRow := ⟨296, [.slo 149 0 17 1, .str 2 14708], crH16b2, .bool true, none⟩
def crH16r83 : KRow := ⟨298, [.slc 297 0 2 2], crH16b33, .nils, none⟩
def crH16r84 : KRow := ⟨300, [.agg [.int .i64 (19), .str 0 0, .str 4 962673254, .int .i64 (0), .int .i64 (0), .str 0 0, .int .i64 (0), .int .i64 (0), .str 0 0, .int .i64 (0), .int .i64 (0), .int .i64 (0), .str 0 0, .str 0 0, .nils, .nils], .slo 155 0 2 1, .slo 224 0 17 2], crH16b0, .int .i64 (0), none⟩
def crH16r85 : KRow := ⟨300, [.ptr 96 0, .agg [.int .i64 (19), .str 0 0, .str 4 962673254, .int .i64 (0), .int .i64 (0), .str 0 0, .int .i64 (0), .int .i64 (0), .str 0 0, .int .i64 (0), .int .i64 (0), .int .i64 (0), .str 0 0, .str 0 0, .nils, .nils]], [], .bool true, none⟩
def crH16r86 : KRow := ⟨295, [.slc 294 0 2 2], crH16b30, .nils, none⟩
def crH16r87 : KRow := ⟨297, [.slo 149 0 17 1, .str 3 3158388], crH16b2, .bool true, none⟩
def crH16r88 : KRow := ⟨299, [.slc 298 0 2 2], crH16b34, .nils, none⟩
def crH16r89 : KRow := ⟨301, [.agg [.int .i64 (19), .str 0 0, .str 5 206986885734, .int .i64 (0), .int .i64 (0), .str 0 0, .int .i64 (0), .int .i64 (0), .str 0 0, .int .i64 (0), .int .i64 (0), .int .i64 (0), .str 0 0, .str 0 0, .nils, .nils], .slo 155 0 2 1, .slo 224 0 17 2], crH16b0, .int .i64 (0), none⟩
def crH16r90 : KRow := ⟨301, [.ptr 96 0, .agg [.int .i64 (19), .str 0 0, .str 5 206986885734, .int .i64 (0), .int .i64 (0), .str 0 0, .int .i64 (0), .int .i64 (0), .str 0 0, .int .i64 (0), .int .i64 (0), .int .i64 (0), .str 0 0, .str 0 0, .nils, .nils]], [], .bool true, none⟩
def crH16r91 : KRow := ⟨296, [.slc 295 0 2 2], crH16b31, .nils, none⟩
def crH16r92 : KRow := ⟨298, [.slo 149 0 17 1, .str 3 3223924], crH16b2, .bool true, none⟩
def crH16r93 : KRow := ⟨300, [.slc 299 0 2 2], crH16b35, .nils, none⟩
def crH16r94 : KRow := ⟨302, [.agg [.int .i64 (19), .str 0 0, .str 5 211281853030, .int .i64 (0), .int .i64 (0), .str 0 0, .int .i64 (0), .int .i64 (0), .str 0 0, .int .i64 (0), .int .i64 (0), .int .i64 (0), .str 0 0, .str 0 0, .nils, .nils], .slo 155 0 2 1, .slo 224 0 17 2], crH16b0, .int .i64 (0), none⟩
def crH16r95 : KRow := ⟨302, [.ptr 96 0, .agg [.int .i64 (19), .str 0 0, .str 5 211281853030, .int .i64 (0), .int .i64 (0), .str 0 0, .int .i64 (0), .int .i64 (0), .str 0 0, .int .i64 (0), .int .i64 (0), .int .i64 (0), .str 0 0, .str 0 0, .nils, .nils]], [], .bool true, none⟩
def crH16r96 : KRow := ⟨297, [.slc 296 0 2 2], crH16b32, .nils, none⟩
def crH16r97 : KRow := ⟨299, [.slo 149 0 17 1, .str 3 3289460], crH16b2, .bool true, none⟩
def crH16r98 : KRow := ⟨301, [.slc 300 0 2 2], crH16b36, .nils, none⟩
def crH16r99 : KRow := ⟨303, [.agg [.int .i64 (19), .str 0 0, .str 5 215576820326, .int .i64 (0), .int .i64 (0), .str 0 0, .int .i64 (0), .int .i64 (0), .str 0 0, .int .i64 (0), .int .i64 (0), .int .i64 (0), .str 0 0, .str 0 0, .nils, .nils], .slo 155 0 2 1, .slo 224 0 17 2], crH16b0, .int .i64 (0), none⟩
def crH16r100 : KRow := ⟨303, [.ptr 96 0, .agg [.int .i64 (19), .str 0 0, .str 5 215576820326, .int .i64 (0), .int .i64 (0), .str 0 0, .int .i64 (0), .int .i64 (0), .str 0 0, .int .i64 (0), .int .i64 (0), .int .i64 (0), .str 0 0, .str 0 0, .nils, .nils]], [], .bool true, none⟩
def crH16r101 : KRow := ⟨298, [.slc 297 0 2 2], crH16b33, .nils, none⟩
def crH16r102 : KRow := ⟨300, [.slo 149 0 17 1, .str 3 3354996], crH16b2, .bool true, none⟩
def crH16r103 : KRow := ⟨302, [.slc 301 0 2 2], crH16b37, .nils, none⟩
def crH16r104 : KRow := ⟨304, [.agg [.int .i64 (19), .str 0 0, .str 5 219871787622, .int .i64 (0), .int .i64 (0), .str 0 0, .int .i64 (0), .int .i64 (0), .str 0 0, .int .i64 (0), .int .i64 (0), .int .i64 (0), .str 0 0, .str 0 0, .nils, .nils], .slo 155 0 2 1, .slo 224 0 17 2], crH16b0, .int .i64 (0), none⟩
def crH16r105 : KRow := ⟨304, [.ptr 96 0, .agg [.int .i64 (19), .str 0 0, .str 5 219871787622, .int .i64 (0), .int .i64 (0), .str 0 0, .int .i64 (0), .int .i64 (0), .str 0 0, .int .i64 (0), .int .i64 (0), .int .i64 (0), .str 0 0, .str 0 0, .nils, .nils]], [], .bool true, none⟩
def crH16r106 : KRow := ⟨299, [.slc 298 0 2 2], crH16b34, .nils, none⟩
def crH16r107 : KRow := ⟨301, [.slo 149 0 17 1, .str 3 3420532], crH16b2, .bool true, none⟩
def crH16r108 : KRow := ⟨303, [.slc 302 0 2 2], crH16b38, .nils, none⟩
def crH16r109 : KRow := ⟨305, [.agg [.int .i64 (19), .str 0 0, .str 5 224166754918, .int .i64 (0), .int .i64 (0), .str 0 0, .int .i64 (0), .int .i64 (0), .str 0 0, .int .i64 (0), .int .i64 (0), .int .i64 (0), .str 0 0, .str 0 0, .nils, .nils], .slo 155 0 2 1, .slo 224 0 17 2], crH16b0, .int .i64 (0), none⟩
def crH16r110 : KRow := ⟨305, [.ptr 96 0, .agg [.int .i64 (19), .str 0 0, .str 5 224166754918, .int .i64 (0), .int .i64 (0), .str 0 0, .int .i64 (0), .int .i64 (0), .str 0 0, .int .i64 (0), .int .i64 (0), .int .i64 (0), .str 0 0, .str 0 0, .nils, .nils]], [], .bool true, none⟩
def crH16r111 : KRow := ⟨300, [.slc 299 0 2 2], crH16b35, .nils, none⟩
def crH16r112 : KRow := ⟨302, [.slo 149 0 17 1, .str 3 3486068], crH16b2, .bool true, none⟩
def crH16r113 : KRow := ⟨304, [.slc 303 0 2 2], crH16b39, .nils, none⟩
def crH16r114 : KRow := ⟨306, [.agg [.int .i64 (19), .str 0 0, .str 5 228461722214, .int .i64 (0), .int .i64 (0), .str 0 0, .int .i64 (0), .int .i64 (0), .str 0 0, .int .i64 (0), .int .i64 (0), .int .i64 (0), .str 0 0, .str 0 0, .nils, .nils], .slo 155 0 2 1, .slo 224 0 17 2], crH16b0, .int .i64 (0), none⟩
def crH16r115 : KRow := ⟨306, [.ptr 96 0, .agg [.int .i64 (19), .str 0 0, .str 5 228461722214, .int .i64 (0), .int .i64 (0), .str 0 0, .int .i64 (0), .int .i64 (0), .str 0 0, .int .i64 (0), .int .i64 (0), .int .i64 (0), .str 0 0, .str 0 0, .nils, .nils]], [], .bool true, none⟩
def crH16r116 : KRow := ⟨301, [.slc 300 0 2 2], crH16b36, .nils, none⟩
def crH16r117 : KRow := ⟨303, [.slo 149 0 17 1, .str 3 3551604], crH16b2, .bool true, none⟩
def crH16r118 : KRow := ⟨305, [.slc 304 0 2 2], crH16b40, .nils, none⟩
def crH16r119 : KRow := ⟨307, [.agg [.int .i64 (19), .str 0 0, .str 5 232756689510, .int .i64 (0), .int .i64 (0), .str 0 0, .int .i64 (0), .int .i64 (0), .str 0 0, .int .i64 (0), .int .i64 (0), .int .i64 (0), .str 0 0, .str 0 0, .nils, .nils], .slo 155 0 2 1, .slo 224 0 17 2], crH16b0, .int .i64 (0), none⟩
def crH16r120 : KRow := ⟨307, [.ptr 96 0, .agg [.int .i64 (19), .str 0 0, .str 5 232756689510, .int .i64 (0), .int .i64 (0), .str 0 0, .int .i64 (0), .int .i64 (0), .str 0 0, .int .i64 (0), .int .i64 (0), .int .i64 (0), .str 0 0, .str 0 0, .nils, .nils]], [], .bool true, none⟩
def crH16r121 : KRow := ⟨302, [.slc 301 0 2 2], crH16b37, .nils, none⟩
def crH16r122 : KRow := ⟨304, [.slo 149 0 17 1, .str 2 12404], crH16b2, .bool true, none⟩
def crH16r123 : KRow := ⟨306, [.slc 305 0 2 2], crH16b41, .nils, none⟩
def crH16r124 : KRow := ⟨308, [.agg [.int .i64 (19), .str 0 0, .str 4 811678310, .int .i64 (0), .int .i64 (0), .str 0 0, .int .i64 (0), .int .i64 (0), .str 0 0, .int .i64 (0), .int .i64 (0), .int .i64 (0), .str 0 0, .str 0 0, .nils, .nils], .slo 155 0 2 1, .slo 224 0 17 2], crH16b0, .int .i64 (0), none⟩
def crH16r125 : KRow := ⟨308, [.ptr 96 0, .agg [.int .i64 (19), .str 0 0, .str 4 811678310, .int .i64 (0), .int .i64 (0), .str 0 0, .int .i64 (0), .int .i64 (0), .str 0 0, .int .i64 (0), .int .i64 (0), .int .i64 (0), .str 0 0, .str 0 0, .nils, .nils]], [], .bool true, none⟩
def crH16r126 : KRow := ⟨702, [.nils, .str 1 103], [], .bool false, none⟩
def crH16r127 : KRow := ⟨714, [.slc 713 0 2 2], crH16b42, .nils, none⟩
def crH16r128 : KRow := ⟨721, [.slc 720 0 2 2], crH16b43, .nils, none⟩
def crH16r129 : KRow := ⟨729, [.slc 728 0 2 2], crH16b44, .nils, none⟩
def crH16r130 : KRow := ⟨738, [.slc 737 0 2 2], crH16b45, .nils, none⟩
def crH16r131 : KRow := ⟨748, [.slc 747 0 2 2], crH16b46, .nils, none⟩
def crH16r132 : KRow := ⟨759, [.slc 758 0 2 2], crH16b47, .nils, none⟩
def crH16r133 : KRow := ⟨771, [.slc 770 0 2 2], crH16b48, .nils, none⟩
def crH16r134 : KRow := ⟨784, [.slc 783 0 2 2], crH16b49, .nils, none⟩
def crH16r135 : KRow := ⟨798, [.slc 797 0 2 2], crH16b50, .nils, none⟩
def crH16r136 : KRow := ⟨813, [.slc 812 0 2 2], crH16b51, .nils, none⟩
def crH16r137 : KRow := ⟨829, [.slc 828 0 2 2], crH16b52, .nils, none⟩
def crH16r138 : KRow := ⟨846, [.slc 845 0 2 2], crH16b53, .nils, none⟩
def crH16r139 : KRow := ⟨864, [.slc 863 0 2 2], crH16b54, .nils, none⟩
def crH16r140 : KRow := ⟨883, [.slc 882 0 2 2], crH16b55, .nils, none⟩
def crH16r141 : KRow := ⟨903, [.slc 902 0 2 2], crH16b56, .nils, none⟩
def crH16r142 : KRow := ⟨924, [.slc 923 0 2 2], crH16b57, .nils, none⟩
def crH16r143 : KRow := ⟨946, [.slc 945 0 2 2], crH16b58, .nils, none⟩
def crH16r144 : KRow := ⟨969, [.slc 968 0 2 2], crH16b59, .nils, none⟩
def crH16r145 : KRow := ⟨974, [.slc 973 0 2 2], crH16b60, .nils, none⟩
def crH16r146 : KRow := ⟨1373, [.slc 1372 0 2 2], crH16b61, .nils, none⟩
def crH16r147 : KRow := ⟨1382, [.slc 1381 0 2 2], crH16b62, .nils, none⟩
def crH16r148 : KRow := ⟨1392, [.slc 1391 0 2 2], crH16b63, .nils, none⟩
def crH16r149 : KRow := ⟨1403, [.slc 1402 0 2 2], crH16b64, .nils, none⟩
def crH16r150 : KRow := ⟨1415, [.slc 1414 0 2 2], crH16b65, .nils, none⟩
def crH16r151 : KRow := ⟨1428, [.slc 1427 0 2 2], crH16b66, .nils, none⟩
def crH16r152 : KRow := ⟨1442, [.slc 1441 0 2 2], crH16b67, .nils, none⟩
def crH16r153 : KRow := ⟨1457, [.slc 1456 0 2 2], crH16b68, .nils, none⟩
def crH16r154 : KRow := ⟨1473, [.slc 1472 0 2 2], crH16b69, .nils, none⟩
def crH16r155 : KRow := ⟨1490, [.slc 1489 0 2 2], crH16b70, .nils, none⟩
def crH16r156 : KRow := ⟨1508, [.slc 1507 0 2 2], crH16b71, .nils, none⟩
def crH16r157 : KRow := ⟨1527, [.slc 1526 0 2 2], crH16b72, .nils, none⟩
def crH16r158 : KRow := ⟨1547, [.slc 1546 0 2 2], crH16b73, .nils, none⟩
def crH16r159 : KRow := ⟨1568, [.slc 1567 0 2 2], crH16b74, .nils, none⟩
def crH16r160 : KRow := ⟨1590, [.slc 1589 0 2 2], crH16b75, .nils, none⟩
def crH16r161 : KRow := ⟨1613, [.slc 1612 0 2 2], crH16b76, .nils, none⟩
def crH16r162 : KRow := ⟨1637, [.slc 1636 0 2 2], crH16b77, .nils, none⟩
def crH16r163 : KRow := ⟨1646, [.nils, .str 1 103], [], .bool false, none⟩
def crH16r164 : KRow := ⟨1655, [.slo 1648 0 1 1, .str 1 104], crH16b78, .bool false, none⟩
def crZ16 (f : Nat) : Option XK := cond (Nat.beq f 15) (some (.known [crH16r3, crH16r42, crH16r47, crH16r52, crH16r57, crH16r62, crH16r67, crH16r72, crH16r77, crH16r82, crH16r87, crH16r92, crH16r97, crH16r102, crH16r107, crH16r112, crH16r117, crH16r122, crH16r126, crH16r163, crH16r164])) (cond (Nat.beq f 70) (some (.known [crH16r0, crH16r5, crH16r7, crH16r9, crH16r11, crH16r13, crH16r15, crH16r17, crH16r19, crH16r21, crH16r23, crH16r25, crH16r27, crH16r29, crH16r31, crH16r33, crH16r35, crH16r37, crH16r39, crH16r44, crH16r49, crH16r54, crH16r59, crH16r64, crH16r69, crH16r74, crH16r79, crH16r84, crH16r89, crH16r94, crH16r99, crH16r104, crH16r109, crH16r114, crH16r119, crH16r124])) (cond (Nat.beq f 71) (some (.known [crH16r1, crH16r6, crH16r8, crH16r10, crH16r12, crH16r14, crH16r16, crH16r18, crH16r20, crH16r22, crH16r24, crH16r26, crH16r28, crH16r30, crH16r32, crH16r34, crH16r36, crH16r38, crH16r40, crH16r45, crH16r50, crH16r55, crH16r60, crH16r65, crH16r70, crH16r75, crH16r80, crH16r85, crH16r90, crH16r95, crH16r100, crH16r105, crH16r110, crH16r115, crH16r120, crH16r125])) (cond (Nat.beq f 85) (some (.known [crH16r2, crH16r4, crH16r41, crH16r43, crH16r46, crH16r48, crH16r51, crH16r53, crH16r56, crH16r58, crH16r61, crH16r63, crH16r66, crH16r68, crH16r71, crH16r73, crH16r76, crH16r78, crH16r81, crH16r83, crH16r86, crH16r88, crH16r91, crH16r93, crH16r96, crH16r98, crH16r101, crH16r103, crH16r106, crH16r108, crH16r111, crH16r113, crH16r116, crH16r118, crH16r121, crH16r123, crH16r127, crH16r128, crH16r129, crH16r130, crH16r131, crH16r132, crH16r133, crH16r134, crH16r135, crH16r136, crH16r137, crH16r138, crH16r139, crH16r140, crH16r141, crH16r142, crH16r143, crH16r144, crH16r145, crH16r146, crH16r147, crH16r148, crH16r149, crH16r150, crH16r151, crH16r152, crH16r153, crH16r154, crH16r155, crH16r156, crH16r157, crH16r158, crH16r159, crH16r160, crH16r161, crH16r162])) (crY f))))
noncomputable def crH16run (f : Nat) (r : KRow) : Bool := (ev crE crY Tryz.prog 1001).f.f f r.args ⟨crHp (crHp .e crBs) r.bs, r.nx, big⟩ (rowEnd r) (fun _ _ => false)
theorem crH16r0_run : crH16run 70 crH16r0 = true := by kernel_rfl
theorem crH16r1_run : crH16run 71 crH16r1 = true := by kernel_rfl
theorem crH16r2_run : crH16run 85 crH16r2 = true := by kernel_rfl
theorem crH16r3_run : crH16run 15 crH16r3 = true := by kernel_rfl
theorem crH16r4_run : crH16run 85 crH16r4 = true := by kernel_rfl
theorem crH16r5_run : crH16run 70 crH16r5 = true := by kernel_rfl
theorem crH16r6_run : crH16run 71 crH16r6 = true := by kernel_rfl
theorem crH16r7_run : crH16run 70 crH16r7 = true := by kernel_rfl
theorem crH16r8_run : crH16run 71 crH16r8 = true := by kernel_rfl
theorem crH16r9_run : crH16run 70 crH16r9 = true := by kernel_rfl
theorem crH16r10_run : crH16run 71 crH16r10 = true := by kernel_rfl
theorem crH16r11_run : crH16run 70 crH16r11 = true := by kernel_rfl
theorem crH16r12_run : crH16run 71 crH16r12 = true := by kernel_rfl
theorem crH16r13_run : crH16run 70 crH16r13 = true := by kernel_rfl
theorem crH16r14_run : crH16run 71 crH16r14 = true := by kernel_rfl
theorem crH16r15_run : crH16run 70 crH16r15 = true := by kernel_rfl
theorem crH16r16_run : crH16run 71 crH16r16 = true := by kernel_rfl
theorem crH16r17_run : crH16run 70 crH16r17 = true := by kernel_rfl
theorem crH16r18_run : crH16run 71 crH16r18 = true := by kernel_rfl
theorem crH16r19_run : crH16run 70 crH16r19 = true := by kernel_rfl
theorem crH16r20_run : crH16run 71 crH16r20 = true := by kernel_rfl
theorem crH16r21_run : crH16run 70 crH16r21 = true := by kernel_rfl
theorem crH16r22_run : crH16run 71 crH16r22 = true := by kernel_rfl
theorem crH16r23_run : crH16run 70 crH16r23 = true := by kernel_rfl
theorem crH16r24_run : crH16run 71 crH16r24 = true := by kernel_rfl
theorem crH16r25_run : crH16run 70 crH16r25 = true := by kernel_rfl
theorem crH16r26_run : crH16run 71 crH16r26 = true := by kernel_rfl
theorem crH16r27_run : crH16run 70 crH16r27 = true := by kernel_rfl
theorem crH16r28_run : crH16run 71 crH16r28 = true := by kernel_rfl
theorem crH16r29_run : crH16run 70 crH16r29 = true := by kernel_rfl
theorem crH16r30_run : crH16run 71 crH16r30 = true := by kernel_rfl
theorem crH16r31_run : crH16run 70 crH16r31 = true := by kernel_rfl
theorem crH16r32_run : crH16run 71 crH16r32 = true := by kernel_rfl
theorem crH16r33_run : crH16run 70 crH16r33 = true := by kernel_rfl
theorem crH16r34_run : crH16run 71 crH16r34 = true := by kernel_rfl
theorem crH16r35_run : crH16run 70 crH16r35 = true := by kernel_rfl
theorem crH16r36_run : crH16run 71 crH16r36 = true := by kernel_rfl
theorem crH16r37_run : crH16run 70 crH16r37 = true := by kernel_rfl
theorem crH16r38_run : crH16run 71 crH16r38 = true := by kernel_rfl
theorem crH16r39_run : crH16run 70 crH16r39 = true := by kernel_rfl
theorem crH16r40_run : crH16run 71 crH16r40 = true := by kernel_rfl
theorem crH16r41_run : crH16run 85 crH16r41 = true := by kernel_rfl
theorem crH16r42_run : crH16run 15 crH16r42 = true := by kernel_rfl
theorem crH16r43_run : crH16run 85 crH16r43 = true := by kernel_rfl
theorem crH16r44_run : crH16run 70 crH16r44 = true := by kernel_rfl
theorem crH16r45_run : crH16run 71 crH16r45 = true := by kernel_rfl
theorem crH16r46_run : crH16run 85 crH16r46 = true := by kernel_rfl
theorem crH16r47_run : crH16run 15 crH16r47 = true := by kernel_rfl
theorem crH16r48_run : crH16run 85 crH16r48 = true := by kernel_rfl
theorem crH16r49_run : crH16run 70 crH16r49 = true := by kernel_rfl
theorem crH16r50_run : crH16run 71 crH16r50 = true := by kernel_rfl
theorem crH16r51_run : crH16run 85 crH16r51 = true := by kernel_rfl
theorem crH16r52_run : crH16run 15 crH16r52 = true := by kernel_rfl
theorem crH16r53_run : crH16run 85 crH16r53 = true := by kernel_rfl
theorem crH16r54_run : crH16run 70 crH16r54 = true := by kernel_rfl
theorem crH16r55_run : crH16run 71 crH16r55 = true := by kernel_rfl
theorem crH16r56_run : crH16run 85 crH16r56 = true := by kernel_rfl
theorem crH16r57_run : crH16run 15 crH16r57 = true := by kernel_rfl
theorem crH16r58_run : crH16run 85 crH16r58 = true := by kernel_rfl
theorem crH16r59_run : crH16run 70 crH16r59 = true := by kernel_rfl
theorem crH16r60_run : crH16run 71 crH16r60 = true := by kernel_rfl
theorem crH16r61_run : crH16run 85 crH16r61 = true := by kernel_rfl
theorem crH16r62_run : crH16run 15 crH16r62 = true := by kernel_rfl
theorem crH16r63_run : crH16run 85 crH16r63 = true := by kernel_rfl
theorem crH16r64_run : crH16run 70 crH16r64 = true := by kernel_rfl
theorem crH16r65_run : crH16run 71 crH16r65 = true := by kernel_rfl
theorem crH16r66_run : crH16run 85 crH16r66 = true := by kernel_rfl
theorem crH16r67_run : crH16run 15 crH16r67 = true := by kernel_rfl
theorem crH16r68_run : crH16run 85 crH16r68 = true := by kernel_rfl
theorem crH16r69_run : crH16run 70 crH16r69 = true := by kernel_rfl
theorem crH16r70_run : crH16run 71 crH16r70 = true := by kernel_rfl
theorem crH16r71_run : crH16run 85 crH16r71 = true := by kernel_rfl
theorem crH16r72_run : crH16run 15 crH16r72 = true := by kernel_rfl
theorem crH16r73_run : crH16run 85 crH16r73 = true := by kernel_rfl
theorem crH16r74_run : crH16run 70 crH16r74 = true := by kernel_rfl
theorem crH16r75_run : crH16run 71 crH16r75 = true := by kernel_rfl
theorem crH16r76_run : crH16run 85 crH16r76 = true := by kernel_rfl
theorem crH16r77_run : crH16run 15 crH16r77 = true := by kernel_rfl
theorem crH16r78_run : crH16run 85 crH16r78 = true := by kernel_rfl
theorem crH16r79_run : crH16run 70 crH16r79 = true := by kernel_rfl
theorem crH16r80_run : crH16run 71 crH16r80 = true := by kernel_rfl
theorem crH16r81_run : crH16run 85 crH16r81 = true := by kernel_rfl
theorem crH16r82_run : crH16run 15 crH16r82 = true := by kernel_rfl
theorem crH16r83_run : crH16run 85 crH16r83 = true := by kernel_rfl
theorem crH16r84_run : crH16run 70 crH16r84 = true := by kernel_rfl
theorem crH16r85_run : crH16run 71 crH16r85 = true := by kernel_rfl
theorem crH16r86_run : crH16run 85 crH16r86 = true := by kernel_rfl
theorem crH16r87_run : crH16run 15 crH16r87 = true := by kernel_rfl
theorem crH16r88_run : crH16run 85 crH16r88 = true := by kernel_rfl
theorem crH16r89_run : crH16run 70 crH16r89 = true := by kernel_rfl
theorem crH16r90_run : crH16run 71 crH16r90 = true := by kernel_rfl
theorem crH16r91_run : crH16run 85 crH16r91 = true := by kernel_rfl
theorem crH16r92_run : crH16run 15 crH16r92 = true := by kernel_rfl
theorem crH16r93_run : crH16run 85 crH16r93 = true := by kernel_rfl
theorem crH16r94_run : crH16run 70 crH16r94 = true := by kernel_rfl
theorem crH16r95_run : crH16run 71 crH16r95 = true := by kernel_rfl
theorem crH16r96_run : crH16run 85 crH16r96 = true := by kernel_rfl
theorem crH16r97_run : crH16run 15 crH16r97 = true := by kernel_rfl
theorem crH16r98_run : crH16run 85 crH16r98 = true := by kernel_rfl
theorem crH16r99_run : crH16run 70 crH16r99 = true := by kernel_rfl
theorem crH16r100_run : crH16run 71 crH16r100 = true := by kernel_rfl
theorem crH16r101_run : crH16run 85 crH16r101 = true := by kernel_rfl
theorem crH16r102_run : crH16run 15 crH16r102 = true := by kernel_rfl
theorem crH16r103_run : crH16run 85 crH16r103 = true := by kernel_rfl
theorem crH16r104_run : crH16run 70 crH16r104 = true := by kernel_rfl
theorem crH16r105_run : crH16run 71 crH16r105 = true := by kernel_rfl
theorem crH16r106_run : crH16run 85 crH16r106 = true := by kernel_rfl
theorem crH16r107_run : crH16run 15 crH16r107 = true := by kernel_rfl
theorem crH16r108_run : crH16run 85 crH16r108 = true := by kernel_rfl
theorem crH16r109_run : crH16run 70 crH16r109 = true := by kernel_rfl
theorem crH16r110_run : crH16run 71 crH16r110 = true := by kernel_rfl
theorem crH16r111_run : crH16run 85 crH16r111 = true := by kernel_rfl
theorem crH16r112_run : crH16run 15 crH16r112 = true := by kernel_rfl
theorem crH16r113_run : crH16run 85 crH16r113 = true := by kernel_rfl
theorem crH16r114_run : crH16run 70 crH16r114 = true := by kernel_rfl
theorem crH16r115_run : crH16run 71 crH16r115 = true := by kernel_rfl
theorem crH16r116_run : crH16run 85 crH16r116 = true := by kernel_rfl
theorem crH16r117_run : crH16run 15 crH16r117 = true := by kernel_rfl
theorem crH16r118_run : crH16run 85 crH16r118 = true := by kernel_rfl
theorem crH16r119_run : crH16run 70 crH16r119 = true := by kernel_rfl
theorem crH16r120_run : crH16run 71 crH16r120 = true := by kernel_rfl
theorem crH16r121_run : crH16run 85 crH16r121 = true := by kernel_rfl
theorem crH16r122_run : crH16run 15 crH16r122 = true := by kernel_rfl
theorem crH16r123_run : crH16run 85 crH16r123 = true := by kernel_rfl
theorem crH16r124_run : crH16run 70 crH16r124 = true := by kernel_rfl
theorem crH16r125_run : crH16run 71 crH16r125 = true := by kernel_rfl
theorem crH16r126_run : crH16run 15 crH16r126 = true := by kernel_rfl
theorem crH16r127_run : crH16run 85 crH16r127 = true := by kernel_rfl
theorem crH16r128_run : crH16run 85 crH16r128 = true := by kernel_rfl
theorem crH16r129_run : crH16run 85 crH16r129 = true := by kernel_rfl
theorem crH16r130_run : crH16run 85 crH16r130 = true := by kernel_rfl
theorem crH16r131_run : crH16run 85 crH16r131 = true := by kernel_rfl
theorem crH16r132_run : crH16run 85 crH16r132 = true := by kernel_rfl
theorem crH16r133_run : crH16run 85 crH16r133 = true := by kernel_rfl
theorem crH16r134_run : crH16run 85 crH16r134 = true := by kernel_rfl
theorem crH16r135_run : crH16run 85 crH16r135 = true := by kernel_rfl
theorem crH16r136_run : crH16run 85 crH16r136 = true := by kernel_rfl
theorem crH16r137_run : crH16run 85 crH16r137 = true := by kernel_rfl
theorem crH16r138_run : crH16run 85 crH16r138 = true := by kernel_rfl
theorem crH16r139_run : crH16run 85 crH16r139 = true := by kernel_rfl
theorem crH16r140_run : crH16run 85 crH16r140 = true := by kernel_rfl
theorem crH16r141_run : crH16run 85 crH16r141 = true := by kernel_rfl
theorem crH16r142_run : crH16run 85 crH16r142 = true := by kernel_rfl
theorem crH16r143_run : crH16run 85 crH16r143 = true := by kernel_rfl
theorem crH16r144_run : crH16run 85 crH16r144 = true := by kernel_rfl
theorem crH16r145_run : crH16run 85 crH16r145 = true := by kernel_rfl
theorem crH16r146_run : crH16run 85 crH16r146 = true := by kernel_rfl
theorem crH16r147_run : crH16run 85 crH16r147 = true := by kernel_rfl
theorem crH16r148_run : crH16run 85 crH16r148 = true := by kernel_rfl
theorem crH16r149_run : crH16run 85 crH16r149 = true := by kernel_rfl
theorem crH16r150_run : crH16run 85 crH16r150 = true := by kernel_rfl
theorem crH16r151_run : crH16run 85 crH16r151 = true := by kernel_rfl
theorem crH16r152_run : crH16run 85 crH16r152 = true := by kernel_rfl
theorem crH16r153_run : crH16run 85 crH16r153 = true := by kernel_rfl
theorem crH16r154_run : crH16run 85 crH16r154 = true := by kernel_rfl
theorem crH16r155_run : crH16run 85 crH16r155 = true := by kernel_rfl
theorem crH16r156_run : crH16run 85 crH16r156 = true := by kernel_rfl
theorem crH16r157_run : crH16run 85 crH16r157 = true := by kernel_rfl
theorem crH16r158_run : crH16run 85 crH16r158 = true := by kernel_rfl
theorem crH16r159_run : crH16run 85 crH16r159 = true := by kernel_rfl
theorem crH16r160_run : crH16run 85 crH16r160 = true := by kernel_rfl
theorem crH16r161_run : crH16run 85 crH16r161 = true := by kernel_rfl
theorem crH16r162_run : crH16run 85 crH16r162 = true := by kernel_rfl
theorem crH16r163_run : crH16run 15 crH16r163 = true := by kernel_rfl
theorem crH16r164_run : crH16run 15 crH16r164 = true := by kernel_rfl
end Go.Proofs.YtcgdnhkibjldjaaGreatDoor
