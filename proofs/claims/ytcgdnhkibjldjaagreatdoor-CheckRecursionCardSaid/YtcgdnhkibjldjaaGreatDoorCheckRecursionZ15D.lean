/- Part of the proof that the law CheckRecursion answers true: calls within the longest evaluations. No condition. -/
import Derived.Test.YtcgdnhkibjldjaaGreatDoorCheckRecursionD
namespace Go.Proofs.YtcgdnhkibjldjaaGreatDoor
open Go Go.Sh
def crH15b0 : List (Nat × Nat × List SV) := [(147, 9, [.str 1 103, .str 1 104]), (212, 115, [.str 4 811678310, .int .i64 (0), .str 4 828455526, .int .i64 (0), .str 4 845232742, .int .i64 (0), .str 4 862009958, .int .i64 (0), .str 4 878787174, .int .i64 (0), .str 4 895564390, .int .i64 (0), .str 4 912341606, .int .i64 (0), .str 4 929118822, .int .i64 (0), .str 4 945896038, .int .i64 (0), .str 4 962673254, .int .i64 (0), .str 5 206986885734, .int .i64 (0), .str 5 211281853030, .int .i64 (0), .str 5 215576820326, .int .i64 (0), .str 5 219871787622, .int .i64 (0), .str 5 224166754918, .int .i64 (0), .str 5 228461722214, .int .i64 (0)])]
def crH15b1 : List (Nat × Nat × List SV) := [(252, 49, [.nils, .nils])]
def crH15b2 : List (Nat × Nat × List SV) := [(141, 9, [.str 2 12404, .str 2 12660, .str 2 12916, .str 2 13172, .str 2 13428, .str 2 13684, .str 2 13940, .str 2 14196, .str 2 14452, .str 2 14708, .str 3 3158388, .str 3 3223924, .str 3 3289460, .str 3 3354996, .str 3 3420532, .str 3 3486068])]
def crH15b3 : List (Nat × Nat × List SV) := [(256, 49, [.nils, .nils])]
def crH15b4 : List (Nat × Nat × List SV) := [(252, 9, [.str 1 103, .str 1 104]), (212, 115, [.str 4 811678310, .int .i64 (0), .str 4 828455526, .int .i64 (0), .str 4 845232742, .int .i64 (0), .str 4 862009958, .int .i64 (0), .str 4 878787174, .int .i64 (0), .str 4 895564390, .int .i64 (0), .str 4 912341606, .int .i64 (0), .str 4 929118822, .int .i64 (0), .str 4 945896038, .int .i64 (0), .str 4 962673254, .int .i64 (0), .str 5 206986885734, .int .i64 (0), .str 5 211281853030, .int .i64 (0), .str 5 215576820326, .int .i64 (0), .str 5 219871787622, .int .i64 (0), .str 5 224166754918, .int .i64 (0), .str 5 228461722214, .int .i64 (0)])]
def crH15b5 : List (Nat × Nat × List SV) := [(253, 9, [.str 1 103, .str 1 104]), (212, 115, [.str 4 811678310, .int .i64 (0), .str 4 828455526, .int .i64 (0), .str 4 845232742, .int .i64 (0), .str 4 862009958, .int .i64 (0), .str 4 878787174, .int .i64 (0), .str 4 895564390, .int .i64 (0), .str 4 912341606, .int .i64 (0), .str 4 929118822, .int .i64 (0), .str 4 945896038, .int .i64 (0), .str 4 962673254, .int .i64 (0), .str 5 206986885734, .int .i64 (0), .str 5 211281853030, .int .i64 (0), .str 5 215576820326, .int .i64 (0), .str 5 219871787622, .int .i64 (0), .str 5 224166754918, .int .i64 (0), .str 5 228461722214, .int .i64 (0)])]
def crH15b6 : List (Nat × Nat × List SV) := [(254, 9, [.str 1 103, .str 1 104]), (212, 115, [.str 4 811678310, .int .i64 (0), .str 4 828455526, .int .i64 (0), .str 4 845232742, .int .i64 (0), .str 4 862009958, .int .i64 (0), .str 4 878787174, .int .i64 (0), .str 4 895564390, .int .i64 (0), .str 4 912341606, .int .i64 (0), .str 4 929118822, .int .i64 (0), .str 4 945896038, .int .i64 (0), .str 4 962673254, .int .i64 (0), .str 5 206986885734, .int .i64 (0), .str 5 211281853030, .int .i64 (0), .str 5 215576820326, .int .i64 (0), .str 5 219871787622, .int .i64 (0), .str 5 224166754918, .int .i64 (0), .str 5 228461722214, .int .i64 (0)])]
def crH15b7 : List (Nat × Nat × List SV) := [(255, 9, [.str 1 103, .str 1 104]), (212, 115, [.str 4 811678310, .int .i64 (0), .str 4 828455526, .int .i64 (0), .str 4 845232742, .int .i64 (0), .str 4 862009958, .int .i64 (0), .str 4 878787174, .int .i64 (0), .str 4 895564390, .int .i64 (0), .str 4 912341606, .int .i64 (0), .str 4 929118822, .int .i64 (0), .str 4 945896038, .int .i64 (0), .str 4 962673254, .int .i64 (0), .str 5 206986885734, .int .i64 (0), .str 5 211281853030, .int .i64 (0), .str 5 215576820326, .int .i64 (0), .str 5 219871787622, .int .i64 (0), .str 5 224166754918, .int .i64 (0), .str 5 228461722214, .int .i64 (0)])]
def crH15b8 : List (Nat × Nat × List SV) := [(256, 9, [.str 1 103, .str 1 104]), (212, 115, [.str 4 811678310, .int .i64 (0), .str 4 828455526, .int .i64 (0), .str 4 845232742, .int .i64 (0), .str 4 862009958, .int .i64 (0), .str 4 878787174, .int .i64 (0), .str 4 895564390, .int .i64 (0), .str 4 912341606, .int .i64 (0), .str 4 929118822, .int .i64 (0), .str 4 945896038, .int .i64 (0), .str 4 962673254, .int .i64 (0), .str 5 206986885734, .int .i64 (0), .str 5 211281853030, .int .i64 (0), .str 5 215576820326, .int .i64 (0), .str 5 219871787622, .int .i64 (0), .str 5 224166754918, .int .i64 (0), .str 5 228461722214, .int .i64 (0)])]
def crH15b9 : List (Nat × Nat × List SV) := [(257, 9, [.str 1 103, .str 1 104]), (212, 115, [.str 4 811678310, .int .i64 (0), .str 4 828455526, .int .i64 (0), .str 4 845232742, .int .i64 (0), .str 4 862009958, .int .i64 (0), .str 4 878787174, .int .i64 (0), .str 4 895564390, .int .i64 (0), .str 4 912341606, .int .i64 (0), .str 4 929118822, .int .i64 (0), .str 4 945896038, .int .i64 (0), .str 4 962673254, .int .i64 (0), .str 5 206986885734, .int .i64 (0), .str 5 211281853030, .int .i64 (0), .str 5 215576820326, .int .i64 (0), .str 5 219871787622, .int .i64 (0), .str 5 224166754918, .int .i64 (0), .str 5 228461722214, .int .i64 (0)])]
def crH15b10 : List (Nat × Nat × List SV) := [(258, 9, [.str 1 103, .str 1 104]), (212, 115, [.str 4 811678310, .int .i64 (0), .str 4 828455526, .int .i64 (0), .str 4 845232742, .int .i64 (0), .str 4 862009958, .int .i64 (0), .str 4 878787174, .int .i64 (0), .str 4 895564390, .int .i64 (0), .str 4 912341606, .int .i64 (0), .str 4 929118822, .int .i64 (0), .str 4 945896038, .int .i64 (0), .str 4 962673254, .int .i64 (0), .str 5 206986885734, .int .i64 (0), .str 5 211281853030, .int .i64 (0), .str 5 215576820326, .int .i64 (0), .str 5 219871787622, .int .i64 (0), .str 5 224166754918, .int .i64 (0), .str 5 228461722214, .int .i64 (0)])]
def crH15b11 : List (Nat × Nat × List SV) := [(259, 9, [.str 1 103, .str 1 104]), (212, 115, [.str 4 811678310, .int .i64 (0), .str 4 828455526, .int .i64 (0), .str 4 845232742, .int .i64 (0), .str 4 862009958, .int .i64 (0), .str 4 878787174, .int .i64 (0), .str 4 895564390, .int .i64 (0), .str 4 912341606, .int .i64 (0), .str 4 929118822, .int .i64 (0), .str 4 945896038, .int .i64 (0), .str 4 962673254, .int .i64 (0), .str 5 206986885734, .int .i64 (0), .str 5 211281853030, .int .i64 (0), .str 5 215576820326, .int .i64 (0), .str 5 219871787622, .int .i64 (0), .str 5 224166754918, .int .i64 (0), .str 5 228461722214, .int .i64 (0)])]
def crH15b12 : List (Nat × Nat × List SV) := [(260, 9, [.str 1 103, .str 1 104]), (212, 115, [.str 4 811678310, .int .i64 (0), .str 4 828455526, .int .i64 (0), .str 4 845232742, .int .i64 (0), .str 4 862009958, .int .i64 (0), .str 4 878787174, .int .i64 (0), .str 4 895564390, .int .i64 (0), .str 4 912341606, .int .i64 (0), .str 4 929118822, .int .i64 (0), .str 4 945896038, .int .i64 (0), .str 4 962673254, .int .i64 (0), .str 5 206986885734, .int .i64 (0), .str 5 211281853030, .int .i64 (0), .str 5 215576820326, .int .i64 (0), .str 5 219871787622, .int .i64 (0), .str 5 224166754918, .int .i64 (0), .str 5 228461722214, .int .i64 (0)])]
def crH15b13 : List (Nat × Nat × List SV) := [(261, 9, [.str 1 103, .str 1 104]), (212, 115, [.str 4 811678310, .int .i64 (0), .str 4 828455526, .int .i64 (0), .str 4 845232742, .int .i64 (0), .str 4 862009958, .int .i64 (0), .str 4 878787174, .int .i64 (0), .str 4 895564390, .int .i64 (0), .str 4 912341606, .int .i64 (0), .str 4 929118822, .int .i64 (0), .str 4 945896038, .int .i64 (0), .str 4 962673254, .int .i64 (0), .str 5 206986885734, .int .i64 (0), .str 5 211281853030, .int .i64 (0), .str 5 215576820326, .int .i64 (0), .str 5 219871787622, .int .i64 (0), .str 5 224166754918, .int .i64 (0), .str 5 228461722214, .int .i64 (0)])]
def crH15b14 : List (Nat × Nat × List SV) := [(262, 9, [.str 1 103, .str 1 104]), (212, 115, [.str 4 811678310, .int .i64 (0), .str 4 828455526, .int .i64 (0), .str 4 845232742, .int .i64 (0), .str 4 862009958, .int .i64 (0), .str 4 878787174, .int .i64 (0), .str 4 895564390, .int .i64 (0), .str 4 912341606, .int .i64 (0), .str 4 929118822, .int .i64 (0), .str 4 945896038, .int .i64 (0), .str 4 962673254, .int .i64 (0), .str 5 206986885734, .int .i64 (0), .str 5 211281853030, .int .i64 (0), .str 5 215576820326, .int .i64 (0), .str 5 219871787622, .int .i64 (0), .str 5 224166754918, .int .i64 (0), .str 5 228461722214, .int .i64 (0)])]
def crH15b15 : List (Nat × Nat × List SV) := [(263, 9, [.str 1 103, .str 1 104]), (212, 115, [.str 4 811678310, .int .i64 (0), .str 4 828455526, .int .i64 (0), .str 4 845232742, .int .i64 (0), .str 4 862009958, .int .i64 (0), .str 4 878787174, .int .i64 (0), .str 4 895564390, .int .i64 (0), .str 4 912341606, .int .i64 (0), .str 4 929118822, .int .i64 (0), .str 4 945896038, .int .i64 (0), .str 4 962673254, .int .i64 (0), .str 5 206986885734, .int .i64 (0), .str 5 211281853030, .int .i64 (0), .str 5 215576820326, .int .i64 (0), .str 5 219871787622, .int .i64 (0), .str 5 224166754918, .int .i64 (0), .str 5 228461722214, .int .i64 (0)])]
def crH15b16 : List (Nat × Nat × List SV) := [(264, 9, [.str 1 103, .str 1 104]), (212, 115, [.str 4 811678310, .int .i64 (0), .str 4 828455526, .int .i64 (0), .str 4 845232742, .int .i64 (0), .str 4 862009958, .int .i64 (0), .str 4 878787174, .int .i64 (0), .str 4 895564390, .int .i64 (0), .str 4 912341606, .int .i64 (0), .str 4 929118822, .int .i64 (0), .str 4 945896038, .int .i64 (0), .str 4 962673254, .int .i64 (0), .str 5 206986885734, .int .i64 (0), .str 5 211281853030, .int .i64 (0), .str 5 215576820326, .int .i64 (0), .str 5 219871787622, .int .i64 (0), .str 5 224166754918, .int .i64 (0), .str 5 228461722214, .int .i64 (0)])]
def crH15b17 : List (Nat × Nat × List SV) := [(265, 9, [.str 1 103, .str 1 104]), (212, 115, [.str 4 811678310, .int .i64 (0), .str 4 828455526, .int .i64 (0), .str 4 845232742, .int .i64 (0), .str 4 862009958, .int .i64 (0), .str 4 878787174, .int .i64 (0), .str 4 895564390, .int .i64 (0), .str 4 912341606, .int .i64 (0), .str 4 929118822, .int .i64 (0), .str 4 945896038, .int .i64 (0), .str 4 962673254, .int .i64 (0), .str 5 206986885734, .int .i64 (0), .str 5 211281853030, .int .i64 (0), .str 5 215576820326, .int .i64 (0), .str 5 219871787622, .int .i64 (0), .str 5 224166754918, .int .i64 (0), .str 5 228461722214, .int .i64 (0)])]
def crH15b18 : List (Nat × Nat × List SV) := [(266, 9, [.str 1 103, .str 1 104]), (212, 115, [.str 4 811678310, .int .i64 (0), .str 4 828455526, .int .i64 (0), .str 4 845232742, .int .i64 (0), .str 4 862009958, .int .i64 (0), .str 4 878787174, .int .i64 (0), .str 4 895564390, .int .i64 (0), .str 4 912341606, .int .i64 (0), .str 4 929118822, .int .i64 (0), .str 4 945896038, .int .i64 (0), .str 4 962673254, .int .i64 (0), .str 5 206986885734, .int .i64 (0), .str 5 211281853030, .int .i64 (0), .str 5 215576820326, .int .i64 (0), .str 5 219871787622, .int .i64 (0), .str 5 224166754918, .int .i64 (0), .str 5 228461722214, .int .i64 (0)])]
def crH15b19 : List (Nat × Nat × List SV) := [(267, 9, [.str 1 103, .str 1 104]), (212, 115, [.str 4 811678310, .int .i64 (0), .str 4 828455526, .int .i64 (0), .str 4 845232742, .int .i64 (0), .str 4 862009958, .int .i64 (0), .str 4 878787174, .int .i64 (0), .str 4 895564390, .int .i64 (0), .str 4 912341606, .int .i64 (0), .str 4 929118822, .int .i64 (0), .str 4 945896038, .int .i64 (0), .str 4 962673254, .int .i64 (0), .str 5 206986885734, .int .i64 (0), .str 5 211281853030, .int .i64 (0), .str 5 215576820326, .int .i64 (0), .str 5 219871787622, .int .i64 (0), .str 5 224166754918, .int .i64 (0), .str 5 228461722214, .int .i64 (0)])]
def crH15b20 : List (Nat × Nat × List SV) := [(270, 49, [.nils, .nils])]
def crH15b21 : List (Nat × Nat × List SV) := [(274, 49, [.nils, .nils])]
def crH15b22 : List (Nat × Nat × List SV) := [(271, 49, [.nils, .nils])]
def crH15b23 : List (Nat × Nat × List SV) := [(275, 49, [.nils, .nils])]
def crH15b24 : List (Nat × Nat × List SV) := [(272, 49, [.nils, .nils])]
def crH15b25 : List (Nat × Nat × List SV) := [(276, 49, [.nils, .nils])]
def crH15b26 : List (Nat × Nat × List SV) := [(273, 49, [.nils, .nils])]
def crH15b27 : List (Nat × Nat × List SV) := [(277, 49, [.nils, .nils])]
def crH15b28 : List (Nat × Nat × List SV) := [(278, 49, [.nils, .nils])]
def crH15b29 : List (Nat × Nat × List SV) := [(279, 49, [.nils, .nils])]
def crH15b30 : List (Nat × Nat × List SV) := [(280, 49, [.nils, .nils])]
def crH15b31 : List (Nat × Nat × List SV) := [(281, 49, [.nils, .nils])]
def crH15b32 : List (Nat × Nat × List SV) := [(282, 49, [.nils, .nils])]
def crH15b33 : List (Nat × Nat × List SV) := [(283, 49, [.nils, .nils])]
def crH15b34 : List (Nat × Nat × List SV) := [(284, 49, [.nils, .nils])]
def crH15b35 : List (Nat × Nat × List SV) := [(285, 49, [.nils, .nils])]
def crH15b36 : List (Nat × Nat × List SV) := [(286, 49, [.nils, .nils])]
def crH15b37 : List (Nat × Nat × List SV) := [(287, 49, [.nils, .nils])]
def crH15b38 : List (Nat × Nat × List SV) := [(288, 49, [.nils, .nils])]
def crH15b39 : List (Nat × Nat × List SV) := [(289, 49, [.nils, .nils])]
def crH15b40 : List (Nat × Nat × List SV) := [(658, 49, [.nils, .nils])]
def crH15b41 : List (Nat × Nat × List SV) := [(665, 49, [.nils, .nils])]
def crH15b42 : List (Nat × Nat × List SV) := [(673, 49, [.nils, .nils])]
def crH15b43 : List (Nat × Nat × List SV) := [(682, 49, [.nils, .nils])]
def crH15b44 : List (Nat × Nat × List SV) := [(692, 49, [.nils, .nils])]
def crH15b45 : List (Nat × Nat × List SV) := [(703, 49, [.nils, .nils])]
def crH15b46 : List (Nat × Nat × List SV) := [(715, 49, [.nils, .nils])]
def crH15b47 : List (Nat × Nat × List SV) := [(728, 49, [.nils, .nils])]
def crH15b48 : List (Nat × Nat × List SV) := [(742, 49, [.nils, .nils])]
def crH15b49 : List (Nat × Nat × List SV) := [(757, 49, [.nils, .nils])]
def crH15b50 : List (Nat × Nat × List SV) := [(773, 49, [.nils, .nils])]
def crH15b51 : List (Nat × Nat × List SV) := [(790, 49, [.nils, .nils])]
def crH15b52 : List (Nat × Nat × List SV) := [(808, 49, [.nils, .nils])]
def crH15b53 : List (Nat × Nat × List SV) := [(827, 49, [.nils, .nils])]
def crH15b54 : List (Nat × Nat × List SV) := [(847, 49, [.nils, .nils])]
def crH15b55 : List (Nat × Nat × List SV) := [(868, 49, [.nils, .nils])]
def crH15b56 : List (Nat × Nat × List SV) := [(890, 49, [.nils, .nils])]
def crH15b57 : List (Nat × Nat × List SV) := [(895, 49, [.nils, .nils])]
def crH15b58 : List (Nat × Nat × List SV) := [(1255, 49, [.nils, .nils])]
def crH15b59 : List (Nat × Nat × List SV) := [(1264, 49, [.nils, .nils])]
def crH15b60 : List (Nat × Nat × List SV) := [(1274, 49, [.nils, .nils])]
def crH15b61 : List (Nat × Nat × List SV) := [(1285, 49, [.nils, .nils])]
def crH15b62 : List (Nat × Nat × List SV) := [(1297, 49, [.nils, .nils])]
def crH15b63 : List (Nat × Nat × List SV) := [(1310, 49, [.nils, .nils])]
def crH15b64 : List (Nat × Nat × List SV) := [(1324, 49, [.nils, .nils])]
def crH15b65 : List (Nat × Nat × List SV) := [(1339, 49, [.nils, .nils])]
def crH15b66 : List (Nat × Nat × List SV) := [(1355, 49, [.nils, .nils])]
def crH15b67 : List (Nat × Nat × List SV) := [(1372, 49, [.nils, .nils])]
def crH15b68 : List (Nat × Nat × List SV) := [(1390, 49, [.nils, .nils])]
def crH15b69 : List (Nat × Nat × List SV) := [(1409, 49, [.nils, .nils])]
def crH15b70 : List (Nat × Nat × List SV) := [(1429, 49, [.nils, .nils])]
def crH15b71 : List (Nat × Nat × List SV) := [(1450, 49, [.nils, .nils])]
def crH15b72 : List (Nat × Nat × List SV) := [(1472, 49, [.nils, .nils])]
def crH15b73 : List (Nat × Nat × List SV) := [(1495, 49, [.nils, .nils])]
def crH15b74 : List (Nat × Nat × List SV) := [(1507, 9, [.str 1 103])]
def crH15r0 : KRow := ⟨251, [.agg [.int .i64 (19), .str 0 0, .str 4 811678310, .int .i64 (0), .int .i64 (0), .str 0 0, .int .i64 (0), .int .i64 (0), .str 0 0, .int .i64 (0), .int .i64 (0), .int .i64 (0), .str 0 0, .str 0 0, .nils, .nils], .slo 147 0 2 1, .slo 212 0 16 2], crH15b0, .int .i64 (0), none⟩
def crH15r1 : KRow := ⟨251, [.ptr 91 0, .agg [.int .i64 (19), .str 0 0, .str 4 811678310, .int .i64 (0), .int .i64 (0), .str 0 0, .int .i64 (0), .int .i64 (0), .str 0 0, .int .i64 (0), .int .i64 (0), .int .i64 (0), .str 0 0, .str 0 0, .nils, .nils]], [], .bool true, none⟩
def crH15r2 : KRow := ⟨253, [.slc 252 0 2 2], crH15b1, .nils, none⟩
def crH15r3 : KRow := ⟨255, [.slo 141 0 16 1, .str 2 12404], crH15b2, .bool true, none⟩
def crH15r4 : KRow := ⟨257, [.slc 256 0 2 2], crH15b3, .nils, none⟩
def crH15r5 : KRow := ⟨259, [.agg [.int .i64 (1), .str 0 0, .str 1 103, .int .i64 (0), .int .i64 (0), .str 0 0, .int .i64 (0), .int .i64 (0), .str 0 0, .int .i64 (0), .int .i64 (0), .int .i64 (0), .str 0 0, .str 0 0, .nils, .nils], .slo 147 0 2 1, .slo 212 0 16 2], crH15b0, .int .i64 (0), none⟩
def crH15r6 : KRow := ⟨259, [.ptr 91 0, .agg [.int .i64 (1), .str 0 0, .str 1 103, .int .i64 (0), .int .i64 (0), .str 0 0, .int .i64 (0), .int .i64 (0), .str 0 0, .int .i64 (0), .int .i64 (0), .int .i64 (0), .str 0 0, .str 0 0, .nils, .nils]], [], .bool true, none⟩
def crH15r7 : KRow := ⟨255, [.agg [.int .i64 (19), .str 0 0, .str 4 828455526, .int .i64 (0), .int .i64 (0), .str 0 0, .int .i64 (0), .int .i64 (0), .str 0 0, .int .i64 (0), .int .i64 (0), .int .i64 (0), .str 0 0, .str 0 0, .nils, .nils], .slo 252 0 2 1, .slo 212 0 16 2], crH15b4, .int .i64 (0), none⟩
def crH15r8 : KRow := ⟨255, [.ptr 91 0, .agg [.int .i64 (19), .str 0 0, .str 4 828455526, .int .i64 (0), .int .i64 (0), .str 0 0, .int .i64 (0), .int .i64 (0), .str 0 0, .int .i64 (0), .int .i64 (0), .int .i64 (0), .str 0 0, .str 0 0, .nils, .nils]], [], .bool true, none⟩
def crH15r9 : KRow := ⟨256, [.agg [.int .i64 (19), .str 0 0, .str 4 845232742, .int .i64 (0), .int .i64 (0), .str 0 0, .int .i64 (0), .int .i64 (0), .str 0 0, .int .i64 (0), .int .i64 (0), .int .i64 (0), .str 0 0, .str 0 0, .nils, .nils], .slo 253 0 2 1, .slo 212 0 16 2], crH15b5, .int .i64 (0), none⟩
def crH15r10 : KRow := ⟨256, [.ptr 91 0, .agg [.int .i64 (19), .str 0 0, .str 4 845232742, .int .i64 (0), .int .i64 (0), .str 0 0, .int .i64 (0), .int .i64 (0), .str 0 0, .int .i64 (0), .int .i64 (0), .int .i64 (0), .str 0 0, .str 0 0, .nils, .nils]], [], .bool true, none⟩
def crH15r11 : KRow := ⟨257, [.agg [.int .i64 (19), .str 0 0, .str 4 862009958, .int .i64 (0), .int .i64 (0), .str 0 0, .int .i64 (0), .int .i64 (0), .str 0 0, .int .i64 (0), .int .i64 (0), .int .i64 (0), .str 0 0, .str 0 0, .nils, .nils], .slo 254 0 2 1, .slo 212 0 16 2], crH15b6, .int .i64 (0), none⟩
def crH15r12 : KRow := ⟨257, [.ptr 91 0, .agg [.int .i64 (19), .str 0 0, .str 4 862009958, .int .i64 (0), .int .i64 (0), .str 0 0, .int .i64 (0), .int .i64 (0), .str 0 0, .int .i64 (0), .int .i64 (0), .int .i64 (0), .str 0 0, .str 0 0, .nils, .nils]], [], .bool true, none⟩
def crH15r13 : KRow := ⟨258, [.agg [.int .i64 (19), .str 0 0, .str 4 878787174, .int .i64 (0), .int .i64 (0), .str 0 0, .int .i64 (0), .int .i64 (0), .str 0 0, .int .i64 (0), .int .i64 (0), .int .i64 (0), .str 0 0, .str 0 0, .nils, .nils], .slo 255 0 2 1, .slo 212 0 16 2], crH15b7, .int .i64 (0), none⟩
def crH15r14 : KRow := ⟨258, [.ptr 91 0, .agg [.int .i64 (19), .str 0 0, .str 4 878787174, .int .i64 (0), .int .i64 (0), .str 0 0, .int .i64 (0), .int .i64 (0), .str 0 0, .int .i64 (0), .int .i64 (0), .int .i64 (0), .str 0 0, .str 0 0, .nils, .nils]], [], .bool true, none⟩
def crH15r15 : KRow := ⟨259, [.agg [.int .i64 (19), .str 0 0, .str 4 895564390, .int .i64 (0), .int .i64 (0), .str 0 0, .int .i64 (0), .int .i64 (0), .str 0 0, .int .i64 (0), .int .i64 (0), .int .i64 (0), .str 0 0, .str 0 0, .nils, .nils], .slo 256 0 2 1, .slo 212 0 16 2], crH15b8, .int .i64 (0), none⟩
def crH15r16 : KRow := ⟨259, [.ptr 91 0, .agg [.int .i64 (19), .str 0 0, .str 4 895564390, .int .i64 (0), .int .i64 (0), .str 0 0, .int .i64 (0), .int .i64 (0), .str 0 0, .int .i64 (0), .int .i64 (0), .int .i64 (0), .str 0 0, .str 0 0, .nils, .nils]], [], .bool true, none⟩
def crH15r17 : KRow := ⟨260, [.agg [.int .i64 (19), .str 0 0, .str 4 912341606, .int .i64 (0), .int .i64 (0), .str 0 0, .int .i64 (0), .int .i64 (0), .str 0 0, .int .i64 (0), .int .i64 (0), .int .i64 (0), .str 0 0, .str 0 0, .nils, .nils], .slo 257 0 2 1, .slo 212 0 16 2], crH15b9, .int .i64 (0), none⟩
def crH15r18 : KRow := ⟨260, [.ptr 91 0, .agg [.int .i64 (19), .str 0 0, .str 4 912341606, .int .i64 (0), .int .i64 (0), .str 0 0, .int .i64 (0), .int .i64 (0), .str 0 0, .int .i64 (0), .int .i64 (0), .int .i64 (0), .str 0 0, .str 0 0, .nils, .nils]], [], .bool true, none⟩
def crH15r19 : KRow := ⟨261, [.agg [.int .i64 (19), .str 0 0, .str 4 929118822, .int .i64 (0), .int .i64 (0), .str 0 0, .int .i64 (0), .int .i64 (0), .str 0 0, .int .i64 (0), .int .i64 (0), .int .i64 (0), .str 0 0, .str 0 0, .nils, .nils], .slo 258 0 2 1, .slo 212 0 16 2], crH15b10, .int .i64 (0), none⟩
def crH15r20 : KRow := ⟨261, [.ptr 91 0, .agg [.int .i64 (19), .str 0 0, .str 4 929118822, .int .i64 (0), .int .i64 (0), .str 0 0, .int .i64 (0), .int .i64 (0), .str 0 0, .int .i64 (0), .int .i64 (0), .int .i64 (0), .str 0 0, .str 0 0, .nils, .nils]], [], .bool true, none⟩
def crH15r21 : KRow := ⟨262, [.agg [.int .i64 (19), .str 0 0, .str 4 945896038, .int .i64 (0), .int .i64 (0), .str 0 0, .int .i64 (0), .int .i64 (0), .str 0 0, .int .i64 (0), .int .i64 (0), .int .i64 (0), .str 0 0, .str 0 0, .nils, .nils], .slo 259 0 2 1, .slo 212 0 16 2], crH15b11, .int .i64 (0), none⟩
def crH15r22 : KRow := ⟨262, [.ptr 91 0, .agg [.int .i64 (19), .str 0 0, .str 4 945896038, .int .i64 (0), .int .i64 (0), .str 0 0, .int .i64 (0), .int .i64 (0), .str 0 0, .int .i64 (0), .int .i64 (0), .int .i64 (0), .str 0 0, .str 0 0, .nils, .nils]], [], .bool true, none⟩
def crH15r23 : KRow := ⟨263, [.agg [.int .i64 (19), .str 0 0, .str 4 962673254, .int .i64 (0), .int .i64 (0), .str 0 0, .int .i64 (0), .int .i64 (0), .str 0 0, .int .i64 (0), .int .i64 (0), .int .i64 (0), .str 0 0, .str 0 0, .nils, .nils], .slo 260 0 2 1, .slo 212 0 16 2], crH15b12, .int .i64 (0), none⟩
def crH15r24 : KRow := ⟨263, [.ptr 91 0, .agg [.int .i64 (19), .str 0 0, .str 4 962673254, .int .i64 (0), .int .i64 (0), .str 0 0, .int .i64 (0), .int .i64 (0), .str 0 0, .int .i64 (0), .int .i64 (0), .int .i64 (0), .str 0 0, .str 0 0, .nils, .nils]], [], .bool true, none⟩
def crH15r25 : KRow := ⟨264, [.agg [.int .i64 (19), .str 0 0, .str 5 206986885734, .int .i64 (0), .int .i64 (0), .str 0 0, .int .i64 (0), .int .i64 (0), .str 0 0, .int .i64 (0), .int .i64 (0), .int .i64 (0), .str 0 0, .str 0 0, .nils, .nils], .slo 261 0 2 1, .slo 212 0 16 2], crH15b13, .int .i64 (0), none⟩
def crH15r26 : KRow := ⟨264, [.ptr 91 0, .agg [.int .i64 (19), .str 0 0, .str 5 206986885734, .int .i64 (0), .int .i64 (0), .str 0 0, .int .i64 (0), .int .i64 (0), .str 0 0, .int .i64 (0), .int .i64 (0), .int .i64 (0), .str 0 0, .str 0 0, .nils, .nils]], [], .bool true, none⟩
def crH15r27 : KRow := ⟨265, [.agg [.int .i64 (19), .str 0 0, .str 5 211281853030, .int .i64 (0), .int .i64 (0), .str 0 0, .int .i64 (0), .int .i64 (0), .str 0 0, .int .i64 (0), .int .i64 (0), .int .i64 (0), .str 0 0, .str 0 0, .nils, .nils], .slo 262 0 2 1, .slo 212 0 16 2], crH15b14, .int .i64 (0), none⟩
def crH15r28 : KRow := ⟨265, [.ptr 91 0, .agg [.int .i64 (19), .str 0 0, .str 5 211281853030, .int .i64 (0), .int .i64 (0), .str 0 0, .int .i64 (0), .int .i64 (0), .str 0 0, .int .i64 (0), .int .i64 (0), .int .i64 (0), .str 0 0, .str 0 0, .nils, .nils]], [], .bool true, none⟩
def crH15r29 : KRow := ⟨266, [.agg [.int .i64 (19), .str 0 0, .str 5 215576820326, .int .i64 (0), .int .i64 (0), .str 0 0, .int .i64 (0), .int .i64 (0), .str 0 0, .int .i64 (0), .int .i64 (0), .int .i64 (0), .str 0 0, .str 0 0, .nils, .nils], .slo 263 0 2 1, .slo 212 0 16 2], crH15b15, .int .i64 (0), none⟩
def crH15r30 : KRow := ⟨266, [.ptr 91 0, .agg [.int .i64 (19), .str 0 0, .str 5 215576820326, .int .i64 (0), .int .i64 (0), .str 0 0, .int .i64 (0), .int .i64 (0), .str 0 0, .int .i64 (0), .int .i64 (0), .int .i64 (0), .str 0 0, .str 0 0, .nils, .nils]], [], .bool true, none⟩
def crH15r31 : KRow := ⟨267, [.agg [.int .i64 (19), .str 0 0, .str 5 219871787622, .int .i64 (0), .int .i64 (0), .str 0 0, .int .i64 (0), .int .i64 (0), .str 0 0, .int .i64 (0), .int .i64 (0), .int .i64 (0), .str 0 0, .str 0 0, .nils, .nils], .slo 264 0 2 1, .slo 212 0 16 2], crH15b16, .int .i64 (0), none⟩
def crH15r32 : KRow := ⟨267, [.ptr 91 0, .agg [.int .i64 (19), .str 0 0, .str 5 219871787622, .int .i64 (0), .int .i64 (0), .str 0 0, .int .i64 (0), .int .i64 (0), .str 0 0, .int .i64 (0), .int .i64 (0), .int .i64 (0), .str 0 0, .str 0 0, .nils, .nils]], [], .bool true, none⟩
def crH15r33 : KRow := ⟨268, [.agg [.int .i64 (19), .str 0 0, .str 5 224166754918, .int .i64 (0), .int .i64 (0), .str 0 0, .int .i64 (0), .int .i64 (0), .str 0 0, .int .i64 (0), .int .i64 (0), .int .i64 (0), .str 0 0, .str 0 0, .nils, .nils], .slo 265 0 2 1, .slo 212 0 16 2], crH15b17, .int .i64 (0), none⟩
def crH15r34 : KRow := ⟨268, [.ptr 91 0, .agg [.int .i64 (19), .str 0 0, .str 5 224166754918, .int .i64 (0), .int .i64 (0), .str 0 0, .int .i64 (0), .int .i64 (0), .str 0 0, .int .i64 (0), .int .i64 (0), .int .i64 (0), .str 0 0, .str 0 0, .nils, .nils]], [], .bool true, none⟩
def crH15r35 : KRow := ⟨269, [.agg [.int .i64 (19), .str 0 0, .str 5 228461722214, .int .i64 (0), .int .i64 (0), .str 0 0, .int .i64 (0), .int .i64 (0), .str 0 0, .int .i64 (0), .int .i64 (0), .int .i64 (0), .str 0 0, .str 0 0, .nils, .nils], .slo 266 0 2 1, .slo 212 0 16 2], crH15b18, .int .i64 (0), none⟩
def crH15r36 : KRow := ⟨269, [.ptr 91 0, .agg [.int .i64 (19), .str 0 0, .str 5 228461722214, .int .i64 (0), .int .i64 (0), .str 0 0, .int .i64 (0), .int .i64 (0), .str 0 0, .int .i64 (0), .int .i64 (0), .int .i64 (0), .str 0 0, .str 0 0, .nils, .nils]], [], .bool true, none⟩
def crH15r37 : KRow := ⟨270, [.agg [.int .i64 (19), .str 0 0, .str 4 811678310, .int .i64 (0), .int .i64 (0), .str 0 0, .int .i64 (0), .int .i64 (0), .str 0 0, .int .i64 (0), .int .i64 (0), .int .i64 (0), .str 0 0, .str 0 0, .nils, .nils], .slo 267 0 2 1, .slo 212 0 16 2], crH15b19, .int .i64 (0), none⟩
def crH15r38 : KRow := ⟨270, [.ptr 91 0, .agg [.int .i64 (19), .str 0 0, .str 4 811678310, .int .i64 (0), .int .i64 (0), .str 0 0, .int .i64 (0), .int .i64 (0), .str 0 0, .int .i64 (0), .int .i64 (0), .int .i64 (0), .str 0 0, .str 0 0, .nils, .nils]], [], .bool true, none⟩
def crH15r39 : KRow := ⟨271, [.slc 270 0 2 2], crH15b20, .nils, none⟩
def crH15r40 : KRow := ⟨273, [.slo 141 0 16 1, .str 2 12660], crH15b2, .bool true, none⟩
def crH15r41 : KRow := ⟨275, [.slc 274 0 2 2], crH15b21, .nils, none⟩
def crH15r42 : KRow := ⟨277, [.agg [.int .i64 (19), .str 0 0, .str 4 828455526, .int .i64 (0), .int .i64 (0), .str 0 0, .int .i64 (0), .int .i64 (0), .str 0 0, .int .i64 (0), .int .i64 (0), .int .i64 (0), .str 0 0, .str 0 0, .nils, .nils], .slo 147 0 2 1, .slo 212 0 16 2], crH15b0, .int .i64 (0), none⟩
def crH15r43 : KRow := ⟨277, [.ptr 91 0, .agg [.int .i64 (19), .str 0 0, .str 4 828455526, .int .i64 (0), .int .i64 (0), .str 0 0, .int .i64 (0), .int .i64 (0), .str 0 0, .int .i64 (0), .int .i64 (0), .int .i64 (0), .str 0 0, .str 0 0, .nils, .nils]], [], .bool true, none⟩
def crH15r44 : KRow := ⟨272, [.slc 271 0 2 2], crH15b22, .nils, none⟩
def crH15r45 : KRow := ⟨274, [.slo 141 0 16 1, .str 2 12916], crH15b2, .bool true, none⟩
def crH15r46 : KRow := ⟨276, [.slc 275 0 2 2], crH15b23, .nils, none⟩
def crH15r47 : KRow := ⟨278, [.agg [.int .i64 (19), .str 0 0, .str 4 845232742, .int .i64 (0), .int .i64 (0), .str 0 0, .int .i64 (0), .int .i64 (0), .str 0 0, .int .i64 (0), .int .i64 (0), .int .i64 (0), .str 0 0, .str 0 0, .nils, .nils], .slo 147 0 2 1, .slo 212 0 16 2], crH15b0, .int .i64 (0), none⟩
def crH15r48 : KRow := ⟨278, [.ptr 91 0, .agg [.int .i64 (19), .str 0 0, .str 4 845232742, .int .i64 (0), .int .i64 (0), .str 0 0, .int .i64 (0), .int .i64 (0), .str 0 0, .int .i64 (0), .int .i64 (0), .int .i64 (0), .str 0 0, .str 0 0, .nils, .nils]], [], .bool true, none⟩
def crH15r49 : KRow := ⟨273, [.slc 272 0 2 2], crH15b24, .nils, none⟩
def crH15r50 : KRow := ⟨275, [.slo 141 0 16 1, .str 2 13172], crH15b2, .bool true, none⟩
def crH15r51 : KRow := ⟨277, [.slc 276 0 2 2], crH15b25, .nils, none⟩
def crH15r52 : KRow := ⟨279, [.agg [.int .i64 (19), .str 0 0, .str 4 862009958, .int .i64 (0), .int .i64 (0), .str 0 0, .int .i64 (0), .int .i64 (0), .str 0 0, .int .i64 (0), .int .i64 (0), .int .i64 (0), .str 0 0, .str 0 0, .nils, .nils], .slo 147 0 2 1, .slo 212 0 16 2], crH15b0, .int .i64 (0), none⟩
def crH15r53 : KRow := ⟨279, [.ptr 91 0, .agg [.int .i64 (19), .str 0 0, .str 4 862009958, .int .i64 (0), .int .i64 (0), .str 0 0, .int .i64 (0), .int .i64 (0), .str 0 0, .int .i64 (0), .int .i64 (0), .int .i64 (0), .str 0 0, .str 0 0, .nils, .nils]], [], .bool true, none⟩
def crH15r54 : KRow := ⟨274, [.slc 273 0 2 2], crH15b26, .nils, none⟩
def crH15r55 : KRow := ⟨276, [.slo 141 0 16 1, .str 2 13428], crH15b2, .bool true, none⟩
def crH15r56 : KRow := ⟨278, [.slc 277 0 2 2], crH15b27, .nils, none⟩
def crH15r57 : KRow := ⟨280, [.agg [.int .i64 (19), .str 0 0, .str 4 878787174, .int .i64 (0), .int .i64 (0), .str 0 0, .int .i64 (0), .int .i64 (0), .str 0 0, .int .i64 (0), .int .i64 (0), .int .i64 (0), .str 0 0, .str 0 0, .nils, .nils], .slo 147 0 2 1, .slo 212 0 16 2], crH15b0, .int .i64 (0), none⟩
def crH15r58 : KRow := ⟨280, [.ptr 91 0, .agg [.int .i64 (19), .str 0 0, .str 4 878787174, .int .i64 (0), .int .i64 (0), .str 0 0, .int .i64 (0), .int .i64 (0), .str 0 0, .int .i64 (0), .int .i64 (0), .int .i64 (0), .str 0 0, .str 0 0, .nils, .nils]], [], .bool true, none⟩
def crH15r59 : KRow := ⟨275, [.slc 274 0 2 2], crH15b21, .nils, none⟩
def crH15r60 : KRow := ⟨277, [.slo 141 0 16 1, .str 2 13684], crH15b2, .bool true, none⟩
def crH15r61 : KRow := ⟨279, [.slc 278 0 2 2], crH15b28, .nils, none⟩
def crH15r62 : KRow := ⟨281, [.agg [.int .i64 (19), .str 0 0, .str 4 895564390, .int .i64 (0), .int .i64 (0), .str 0 0, .int .i64 (0), .int .i64 (0), .str 0 0, .int .i64 (0), .int .i64 (0), .int .i64 (0), .str 0 0, .str 0 0, .nils, .nils], .slo 147 0 2 1, .slo 212 0 16 2], crH15b0, .int .i64 (0), none⟩
def crH15r63 : KRow := ⟨281, [.ptr 91 0, .agg [.int .i64 (19), .str 0 0, .str 4 895564390, .int .i64 (0), .int .i64 (0), .str 0 0, .int .i64 (0), .int .i64 (0), .str 0 0, .int .i64 (0), .int .i64 (0), .int .i64 (0), .str 0 0, .str 0 0, .nils, .nils]], [], .bool true, none⟩
def crH15r64 : KRow := ⟨276, [.slc 275 0 2 2], crH15b23, .nils, none⟩
def crH15r65 : KRow := ⟨278, [.slo 141 0 16 1, .str 2 13940], crH15b2, .bool true, none⟩
def crH15r66 : KRow := ⟨280, [.slc 279 0 2 2], crH15b29, .nils, none⟩
def crH15r67 : KRow := ⟨282, [.agg [.int .i64 (19), .str 0 0, .str 4 912341606, .int .i64 (0), .int .i64 (0), .str 0 0, .int .i64 (0), .int .i64 (0), .str 0 0, .int .i64 (0), .int .i64 (0), .int .i64 (0), .str 0 0, .str 0 0, .nils, .nils], .slo 147 0 2 1, .slo 212 0 16 2], crH15b0, .int .i64 (0), none⟩
def crH15r68 : KRow := ⟨282, [.ptr 91 0, .agg [.int .i64 (19), .str 0 0, .str 4 912341606, .int .i64 (0), .int .i64 (0), .str 0 0, .int .i64 (0), .int .i64 (0), .str 0 0, .int .i64 (0), .int .i64 (0), .int .i64 (0), .str 0 0, .str 0 0, .nils, .nils]], [], .bool true, none⟩
def crH15r69 : KRow := ⟨277, [.slc 276 0 2 2], crH15b25, .nils, none⟩
def crH15r70 : KRow := ⟨279, [.slo 141 0 16 1, .str 2 14196], crH15b2, .bool true, none⟩
def crH15r71 : KRow := ⟨281, [.slc 280 0 2 2], crH15b30, .nils, none⟩
def crH15r72 : KRow := ⟨283, [.agg [.int .i64 (19), .str 0 0, .str 4 929118822, .int .i64 (0), .int .i64 (0), .str 0 0, .int .i64 (0), .int .i64 (0), .str 0 0, .int .i64 (0), .int .i64 (0), .int .i64 (0), .str 0 0, .str 0 0, .nils, .nils], .slo 147 0 2 1, .slo 212 0 16 2], crH15b0, .int .i64 (0), none⟩
def crH15r73 : KRow := ⟨283, [.ptr 91 0, .agg [.int .i64 (19), .str 0 0, .str 4 929118822, .int .i64 (0), .int .i64 (0), .str 0 0, .int .i64 (0), .int .i64 (0), .str 0 0, .int .i64 (0), .int .i64 (0), .int .i64 (0), .str 0 0, .str 0 0, .nils, .nils]], [], .bool true, none⟩
def crH15r74 : KRow := ⟨278, [.slc 277 0 2 2], crH15b27, .nils, none⟩
def crH15r75 : KRow := ⟨280, [.slo 141 0 16 1, .str 2 14452], crH15b2, .bool true, none⟩
def crH15r76 : KRow := ⟨282, [.slc 281 0 2 2], crH15b31, .nils, none⟩
def crH15r77 : KRow := ⟨284, [.agg [.int .i64 (19), .str 0 0, .str 4 945896038, .int .i64 (0), .int .i64 (0), .str 0 0, .int .i64 (0), .int .i64 (0), .str 0 0, .int .i64 (0), .int .i64 (0), .int .i64 (0), .str 0 0, .str 0 0, .nils, .nils], .slo 147 0 2 1, .slo 212 0 16 2], crH15b0, .int .i64 (0), none⟩
def crH15r78 : KRow := ⟨284, [.ptr 91 0, .agg [.int .i64 (19), .str 0 0, .str 4 945896038, .int .i64 (0), .int .i64 (0), .str 0 0, .int .i64 (0), .int .i64 (0), .str 0 0, .int .i64 (0), .int .i64 (0), .int .i64 (0), .str 0 0, .str 0 0, .nils, .nils]], [], .bool true, none⟩
def crH15r79 : KRow := ⟨279, [.slc 278 0 2 2], crH15b28, .nils, none⟩
def crH15r80 : KRow := ⟨281, [.slo 141 0 16 1, .str 2 14708], crH15b2, .bool true, none⟩
def crH15r81 : KRow := ⟨283, [.slc 282 0 2 2], crH15b32, .nils, none⟩
def crH15r82 : KRow := ⟨285, [.agg [.int .i64 (19), .str 0 0, .str 4 962673254, .int .i64 (0), .int .i64 (0), .str 0 0, .int .i64 (0), .int .i64 (0), .str 0 0, .int .i64 (0), .int .i64 (0), .int .i64 (0), .str 0 0, .str 0 0, .nils, .nils], .slo 147 0 2 1, .slo 212 0 16 2], crH15b0, .int .i64 (0), none⟩
def crH15r83 : KRow := ⟨285, [.ptr 91 0, .agg [.int .i64 (19), .str 0 0, .str 4 962673254, .int .i64 (0), .int .i64 (0), .str 0 0, .int .i64 (0), .int .i64 (0), .str 0 0, .int .i64 (0), .int .i64 (0), .int .i64 (0), .str 0 0, .str 0 0, .nils, .nils]], [], .bool true, none⟩
def crH15r84 : KRow := ⟨280, [.slc 279 0 2 2], crH15b29, .nils, none⟩
def crH15r85 : KRow := ⟨282, [.slo 141 0 16 1, .str 3 3158388], crH15b2, .bool true, none⟩
def crH15r86 : KRow := ⟨284, [.slc 283 0 2 2], crH15b33, .nils, none⟩
def crH15r87 : KRow := ⟨286, [.agg [.int .i64 (19), .str 0 0, .str 5 206986885734, .int .i64 (0), .int .i64 (0), .str 0 0, .int .i64 (0), .int .i64 (0), .str 0 0, .int .i64 (0), .int .i64 (0), .int .i64 (0), .str 0 0, .str 0 0, .nils, .nils], .slo 147 0 2 1, .slo 212 0 16 2], crH15b0, .int .i64 (0), none⟩
def crH15r88 : KRow := ⟨286, [.ptr 91 0, .agg [.int .i64 (19), .str 0 0, .str 5 206986885734, .int .i64 (0), .int .i64 (0), .str 0 0, .int .i64 (0), .int .i64 (0), .str 0 0, .int .i64 (0), .int .i64 (0), .int .i64 (0), .str 0 0, .str 0 0, .nils, .nils]], [], .bool true, none⟩
def crH15r89 : KRow := ⟨281, [.slc 280 0 2 2], crH15b30, .nils, none⟩
def crH15r90 : KRow := ⟨283, [.slo 141 0 16 1, .str 3 3223924], crH15b2, .bool true, none⟩
def crH15r91 : KRow := ⟨285, [.slc 284 0 2 2], crH15b34, .nils, none⟩
def crH15r92 : KRow := ⟨287, [.agg [.int .i64 (19), .str 0 0, .str 5 211281853030, .int .i64 (0), .int .i64 (0), .str 0 0, .int .i64 (0), .int .i64 (0), .str 0 0, .int .i64 (0), .int .i64 (0), .int .i64 (0), .str 0 0, .str 0 0, .nils, .nils], .slo 147 0 2 1, .slo 212 0 16 2], crH15b0, .int .i64 (0), none⟩
def crH15r93 : KRow := ⟨287, [.ptr 91 0, .agg [.int .i64 (19), .str 0 0, .str 5 211281853030, .int .i64 (0), .int .i64 (0), .str 0 0, .int .i64 (0), .int .i64 (0), .str 0 0, .int .i64 (0), .int .i64 (0), .int .i64 (0), .str 0 0, .str 0 0, .nils, .nils]], [], .bool true, none⟩
def crH15r94 : KRow := ⟨282, [.slc 281 0 2 2], crH15b31, .nils, none⟩
def crH15r95 : KRow := ⟨284, [.slo 141 0 16 1, .str 3 3289460], crH15b2, .bool true, none⟩
def crH15r96 : KRow := ⟨286, [.slc 285 0 2 2], crH15b35, .nils, none⟩
def crH15r97 : KRow := ⟨288, [.agg [.int .i64 (19), .str 0 0, .str 5 215576820326, .int .i64 (0), .int .i64 (0), .str 0 0, .int .i64 (0), .int .i64 (0), .str 0 0, .int .i64 (0), .int .i64 (0), .int .i64 (0), .str 0 0, .str 0 0, .nils, .nils], .slo 147 0 2 1, .slo 212 0 16 2], crH15b0, .int .i64 (0), none⟩
def crH15r98 : KRow := ⟨288, [.ptr 91 0, .agg [.int .i64 (19), .str 0 0, .str 5 215576820326, .int .i64 (0), .int .i64 (0), .str 0 0, .int .i64 (0), .int .i64 (0), .str 0 0, .int .i64 (0), .int .i64 (0), .int .i64 (0), .str 0 0, .str 0 0, .nils, .nils]], [], .bool true, none⟩
def crH15r99 : KRow := ⟨283, [.slc 282 0 2 2], crH15b32, .nils, none⟩
def crH15r100 : KRow := ⟨285, [.slo 141 0 16 1, .str 3 3354996], crH15b2, .bool true, none⟩
def crH15r101 : KRow := ⟨287, [.slc 286 0 2 2], crH15b36, .nils, none⟩
def crH15r102 : KRow := ⟨289, [.agg [.int .i64 (19), .str 0 0, .str 5 219871787622, .int .i64 (0), .int .i64 (0), .str 0 0, .int .i64 (0), .int .i64 (0), .str 0 0, .int .i64 (0), .int .i64 (0), .int .i64 (0), .str 0 0, .str 0 0, .nils, .nils], .slo 147 0 2 1, .slo 212 0 16 2], crH15b0, .int .i64 (0), none⟩
def crH15r103 : KRow := ⟨289, [.ptr 91 0, .agg [.int .i64 (19), .str 0 0, .str 5 219871787622, .int .i64 (0), .int .i64 (0), .str 0 0, .int .i64 (0), .int .i64 (0), .str 0 0, .int .i64 (0), .int .i64 (0), .int .i64 (0), .str 0 0, .str 0 0, .nils, .nils]], [], .bool true, none⟩
def crH15r104 : KRow := ⟨284, [.slc 283 0 2 2], crH15b33, .nils, none⟩
def crH15r105 : KRow := ⟨286, [.slo 141 0 16 1, .str 3 3420532], crH15b2, .bool true, none⟩
def crH15r106 : KRow := ⟨288, [.slc 287 0 2 2], crH15b37, .nils, none⟩
def crH15r107 : KRow := ⟨290, [.agg [.int .i64 (19), .str 0 0, .str 5 224166754918, .int .i64 (0), .int .i64 (0), .str 0 0, .int .i64 (0), .int .i64 (0), .str 0 0, .int .i64 (0), .int .i64 (0), .int .i64 (0), .str 0 0, .str 0 0, .nils, .nils], .slo 147 0 2 1, .slo 212 0 16 2], crH15b0, .int .i64 (0), none⟩
def crH15r108 : KRow := ⟨290, [.ptr 91 0, .agg [.int .i64 (19), .str 0 0, .str 5 224166754918, .int .i64 (0), .int .i64 (0), .str 0 0, .int .i64 (0), .int .i64 (0), .str 0 0, .int .i64 (0), .int .i64 (0), .int .i64 (0), .str 0 0, .str 0 0, .nils, .nils]], [], .bool true, none⟩
def crH15r109 : KRow := ⟨285, [.slc 284 0 2 2], crH15b34, .nils, none⟩
def crH15r110 : KRow := ⟨287, [.slo 141 0 16 1, .str 3 3486068], crH15b2, .bool true, none⟩
def crH15r111 : KRow := ⟨289, [.slc 288 0 2 2], crH15b38, .nils, none⟩
def crH15r112 : KRow := ⟨291, [.agg [.int .i64 (19), .str 0 0, .str 5 228461722214, .int .i64 (0), .int .i64 (0), .str 0 0, .int .i64 (0), .int .i64 (0), .str 0 0, .int .i64 (0), .int .i64 (0), .int .i64 (0), .str 0 0, .str 0 0, .nils, .nils], .slo 147 0 2 1, .slo 212 0 16 2], crH15b0, .int .i64 (0), none⟩
def crH15r113 : KRow := ⟨291, [.ptr 91 0, .agg [.int .i64 (19), .str 0 0, .str 5 228461722214, .int .i64 (0), .int .i64 (0), .str 0 0, .int .i64 (0), .int .i64 (0), .str 0 0, .int .i64 (0), .int .i64 (0), .int .i64 (0), .str 0 0, .str 0 0, .nils, .nils]], [], .bool true, none⟩
def crH15r114 : KRow := ⟨286, [.slc 285 0 2 2], crH15b35, .nils, none⟩
def crH15r115 : KRow := ⟨288, [.slo 141 0 16 1, .str 2 12404], crH15b2, .bool true, none⟩
def crH15r116 : KRow := ⟨290, [.slc 289 0 2 2], crH15b39, .nils, none⟩
def crH15r117 : KRow := ⟨292, [.agg [.int .i64 (19), .str 0 0, .str 4 811678310, .int .i64 (0), .int .i64 (0), .str 0 0, .int .i64 (0), .int .i64 (0), .str 0 0, .int .i64 (0), .int .i64 (0), .int .i64 (0), .str 0 0, .str 0 0, .nils, .nils], .slo 147 0 2 1, .slo 212 0 16 2], crH15b0, .int .i64 (0), none⟩
def crH15r118 : KRow := ⟨292, [.ptr 91 0, .agg [.int .i64 (19), .str 0 0, .str 4 811678310, .int .i64 (0), .int .i64 (0), .str 0 0, .int .i64 (0), .int .i64 (0), .str 0 0, .int .i64 (0), .int .i64 (0), .int .i64 (0), .str 0 0, .str 0 0, .nils, .nils]], [], .bool true, none⟩
def crH15r119 : KRow := ⟨647, [.nils, .str 1 103], [], .bool false, none⟩
def crH15r120 : KRow := ⟨659, [.slc 658 0 2 2], crH15b40, .nils, none⟩
def crH15r121 : KRow := ⟨666, [.slc 665 0 2 2], crH15b41, .nils, none⟩
def crH15r122 : KRow := ⟨674, [.slc 673 0 2 2], crH15b42, .nils, none⟩
def crH15r123 : KRow := ⟨683, [.slc 682 0 2 2], crH15b43, .nils, none⟩
def crH15r124 : KRow := ⟨693, [.slc 692 0 2 2], crH15b44, .nils, none⟩
def crH15r125 : KRow := ⟨704, [.slc 703 0 2 2], crH15b45, .nils, none⟩
def crH15r126 : KRow := ⟨716, [.slc 715 0 2 2], crH15b46, .nils, none⟩
def crH15r127 : KRow := ⟨729, [.slc 728 0 2 2], crH15b47, .nils, none⟩
def crH15r128 : KRow := ⟨743, [.slc 742 0 2 2], crH15b48, .nils, none⟩
def crH15r129 : KRow := ⟨758, [.slc 757 0 2 2], crH15b49, .nils, none⟩
def crH15r130 : KRow := ⟨774, [.slc 773 0 2 2], crH15b50, .nils, none⟩
def crH15r131 : KRow := ⟨791, [.slc 790 0 2 2], crH15b51, .nils, none⟩
def crH15r132 : KRow := ⟨809, [.slc 808 0 2 2], crH15b52, .nils, none⟩
def crH15r133 : KRow := ⟨828, [.slc 827 0 2 2], crH15b53, .nils, none⟩
def crH15r134 : KRow := ⟨848, [.slc 847 0 2 2], crH15b54, .nils, none⟩
def crH15r135 : KRow := ⟨869, [.slc 868 0 2 2], crH15b55, .nils, none⟩
def crH15r136 : KRow := ⟨891, [.slc 890 0 2 2], crH15b56, .nils, none⟩
def crH15r137 : KRow := ⟨896, [.slc 895 0 2 2], crH15b57, .nils, none⟩
def crH15r138 : KRow := ⟨1256, [.slc 1255 0 2 2], crH15b58, .nils, none⟩
def crH15r139 : KRow := ⟨1265, [.slc 1264 0 2 2], crH15b59, .nils, none⟩
def crH15r140 : KRow := ⟨1275, [.slc 1274 0 2 2], crH15b60, .nils, none⟩
def crH15r141 : KRow := ⟨1286, [.slc 1285 0 2 2], crH15b61, .nils, none⟩
def crH15r142 : KRow := ⟨1298, [.slc 1297 0 2 2], crH15b62, .nils, none⟩
def crH15r143 : KRow := ⟨1311, [.slc 1310 0 2 2], crH15b63, .nils, none⟩
def crH15r144 : KRow := ⟨1325, [.slc 1324 0 2 2], crH15b64, .nils, none⟩
def crH15r145 : KRow := ⟨1340, [.slc 1339 0 2 2], crH15b65, .nils, none⟩
def crH15r146 : KRow := ⟨1356, [.slc 1355 0 2 2], crH15b66, .nils, none⟩
def crH15r147 : KRow := ⟨1373, [.slc 1372 0 2 2], crH15b67, .nils, none⟩
def crH15r148 : KRow := ⟨1391, [.slc 1390 0 2 2], crH15b68, .nils, none⟩
def crH15r149 : KRow := ⟨1410, [.slc 1409 0 2 2], crH15b69, .nils, none⟩
def crH15r150 : KRow := ⟨1430, [.slc 1429 0 2 2], crH15b70, .nils, none⟩
def crH15r151 : KRow := ⟨1451, [.slc 1450 0 2 2], crH15b71, .nils, none⟩
def crH15r152 : KRow := ⟨1473, [.slc 1472 0 2 2], crH15b72, .nils, none⟩
def crH15r153 : KRow := ⟨1496, [.slc 1495 0 2 2], crH15b73, .nils, none⟩
def crH15r154 : KRow := ⟨1505, [.nils, .str 1 103], [], .bool false, none⟩
def crH15r155 : KRow := ⟨1514, [.slo 1507 0 1 1, .str 1 104], crH15b74, .bool false, none⟩
def crZ15 (f : Nat) : Option XK := cond (Nat.beq f 15) (some (.known [crH15r3, crH15r40, crH15r45, crH15r50, crH15r55, crH15r60, crH15r65, crH15r70, crH15r75, crH15r80, crH15r85, crH15r90, crH15r95, crH15r100, crH15r105, crH15r110, crH15r115, crH15r119, crH15r154, crH15r155])) (cond (Nat.beq f 70) (some (.known [crH15r0, crH15r5, crH15r7, crH15r9, crH15r11, crH15r13, crH15r15, crH15r17, crH15r19, crH15r21, crH15r23, crH15r25, crH15r27, crH15r29, crH15r31, crH15r33, crH15r35, crH15r37, crH15r42, crH15r47, crH15r52, crH15r57, crH15r62, crH15r67, crH15r72, crH15r77, crH15r82, crH15r87, crH15r92, crH15r97, crH15r102, crH15r107, crH15r112, crH15r117])) (cond (Nat.beq f 71) (some (.known [crH15r1, crH15r6, crH15r8, crH15r10, crH15r12, crH15r14, crH15r16, crH15r18, crH15r20, crH15r22, crH15r24, crH15r26, crH15r28, crH15r30, crH15r32, crH15r34, crH15r36, crH15r38, crH15r43, crH15r48, crH15r53, crH15r58, crH15r63, crH15r68, crH15r73, crH15r78, crH15r83, crH15r88, crH15r93, crH15r98, crH15r103, crH15r108, crH15r113, crH15r118])) (cond (Nat.beq f 85) (some (.known [crH15r2, crH15r4, crH15r39, crH15r41, crH15r44, crH15r46, crH15r49, crH15r51, crH15r54, crH15r56, crH15r59, crH15r61, crH15r64, crH15r66, crH15r69, crH15r71, crH15r74, crH15r76, crH15r79, crH15r81, crH15r84, crH15r86, crH15r89, crH15r91, crH15r94, crH15r96, crH15r99, crH15r101, crH15r104, crH15r106, crH15r109, crH15r111, crH15r114, crH15r116, crH15r120, crH15r121, crH15r122, crH15r123, crH15r124, crH15r125, crH15r126, crH15r127, crH15r128, crH15r129, crH15r130, crH15r131, crH15r132, crH15r133, crH15r134, crH15r135, crH15r136, crH15r137, crH15r138, crH15r139, crH15r140, crH15r141, crH15r142, crH15r143, crH15r144, crH15r145, crH15r146, crH15r147, crH15r148, crH15r149, crH15r150, crH15r151, crH15r152, crH15r153])) (crY f))))
noncomputable def crH15run (f : Nat) (r : KRow) : Bool := (ev crE crY Tryz.prog 1001).f.f f r.args ⟨crHp (crHp .e crBs) r.bs, r.nx, big⟩ (rowEnd r) (fun _ _ => false)
theorem crH15r0_run : crH15run 70 crH15r0 = true := by kernel_rfl
theorem crH15r1_run : crH15run 71 crH15r1 = true := by kernel_rfl
theorem crH15r2_run : crH15run 85 crH15r2 = true := by kernel_rfl
theorem crH15r3_run : crH15run 15 crH15r3 = true := by kernel_rfl
theorem crH15r4_run : crH15run 85 crH15r4 = true := by kernel_rfl
theorem crH15r5_run : crH15run 70 crH15r5 = true := by kernel_rfl
theorem crH15r6_run : crH15run 71 crH15r6 = true := by kernel_rfl
theorem crH15r7_run : crH15run 70 crH15r7 = true := by kernel_rfl
theorem crH15r8_run : crH15run 71 crH15r8 = true := by kernel_rfl
theorem crH15r9_run : crH15run 70 crH15r9 = true := by kernel_rfl
theorem crH15r10_run : crH15run 71 crH15r10 = true := by kernel_rfl
theorem crH15r11_run : crH15run 70 crH15r11 = true := by kernel_rfl
theorem crH15r12_run : crH15run 71 crH15r12 = true := by kernel_rfl
theorem crH15r13_run : crH15run 70 crH15r13 = true := by kernel_rfl
theorem crH15r14_run : crH15run 71 crH15r14 = true := by kernel_rfl
theorem crH15r15_run : crH15run 70 crH15r15 = true := by kernel_rfl
theorem crH15r16_run : crH15run 71 crH15r16 = true := by kernel_rfl
theorem crH15r17_run : crH15run 70 crH15r17 = true := by kernel_rfl
theorem crH15r18_run : crH15run 71 crH15r18 = true := by kernel_rfl
theorem crH15r19_run : crH15run 70 crH15r19 = true := by kernel_rfl
theorem crH15r20_run : crH15run 71 crH15r20 = true := by kernel_rfl
theorem crH15r21_run : crH15run 70 crH15r21 = true := by kernel_rfl
theorem crH15r22_run : crH15run 71 crH15r22 = true := by kernel_rfl
theorem crH15r23_run : crH15run 70 crH15r23 = true := by kernel_rfl
theorem crH15r24_run : crH15run 71 crH15r24 = true := by kernel_rfl
theorem crH15r25_run : crH15run 70 crH15r25 = true := by kernel_rfl
theorem crH15r26_run : crH15run 71 crH15r26 = true := by kernel_rfl
theorem crH15r27_run : crH15run 70 crH15r27 = true := by kernel_rfl
theorem crH15r28_run : crH15run 71 crH15r28 = true := by kernel_rfl
theorem crH15r29_run : crH15run 70 crH15r29 = true := by kernel_rfl
theorem crH15r30_run : crH15run 71 crH15r30 = true := by kernel_rfl
theorem crH15r31_run : crH15run 70 crH15r31 = true := by kernel_rfl
theorem crH15r32_run : crH15run 71 crH15r32 = true := by kernel_rfl
theorem crH15r33_run : crH15run 70 crH15r33 = true := by kernel_rfl
theorem crH15r34_run : crH15run 71 crH15r34 = true := by kernel_rfl
theorem crH15r35_run : crH15run 70 crH15r35 = true := by kernel_rfl
theorem crH15r36_run : crH15run 71 crH15r36 = true := by kernel_rfl
theorem crH15r37_run : crH15run 70 crH15r37 = true := by kernel_rfl
theorem crH15r38_run : crH15run 71 crH15r38 = true := by kernel_rfl
theorem crH15r39_run : crH15run 85 crH15r39 = true := by kernel_rfl
theorem crH15r40_run : crH15run 15 crH15r40 = true := by kernel_rfl
theorem crH15r41_run : crH15run 85 crH15r41 = true := by kernel_rfl
theorem crH15r42_run : crH15run 70 crH15r42 = true := by kernel_rfl
theorem crH15r43_run : crH15run 71 crH15r43 = true := by kernel_rfl
theorem crH15r44_run : crH15run 85 crH15r44 = true := by kernel_rfl
theorem crH15r45_run : crH15run 15 crH15r45 = true := by kernel_rfl
theorem crH15r46_run : crH15run 85 crH15r46 = true := by kernel_rfl
theorem crH15r47_run : crH15run 70 crH15r47 = true := by kernel_rfl
theorem crH15r48_run : crH15run 71 crH15r48 = true := by kernel_rfl
theorem crH15r49_run : crH15run 85 crH15r49 = true := by kernel_rfl
theorem crH15r50_run : crH15run 15 crH15r50 = true := by kernel_rfl
theorem crH15r51_run : crH15run 85 crH15r51 = true := by kernel_rfl
theorem crH15r52_run : crH15run 70 crH15r52 = true := by kernel_rfl
theorem crH15r53_run : crH15run 71 crH15r53 = true := by kernel_rfl
theorem crH15r54_run : crH15run 85 crH15r54 = true := by kernel_rfl
theorem crH15r55_run : crH15run 15 crH15r55 = true := by kernel_rfl
theorem crH15r56_run : crH15run 85 crH15r56 = true := by kernel_rfl
theorem crH15r57_run : crH15run 70 crH15r57 = true := by kernel_rfl
theorem crH15r58_run : crH15run 71 crH15r58 = true := by kernel_rfl
theorem crH15r59_run : crH15run 85 crH15r59 = true := by kernel_rfl
theorem crH15r60_run : crH15run 15 crH15r60 = true := by kernel_rfl
theorem crH15r61_run : crH15run 85 crH15r61 = true := by kernel_rfl
theorem crH15r62_run : crH15run 70 crH15r62 = true := by kernel_rfl
theorem crH15r63_run : crH15run 71 crH15r63 = true := by kernel_rfl
theorem crH15r64_run : crH15run 85 crH15r64 = true := by kernel_rfl
theorem crH15r65_run : crH15run 15 crH15r65 = true := by kernel_rfl
theorem crH15r66_run : crH15run 85 crH15r66 = true := by kernel_rfl
theorem crH15r67_run : crH15run 70 crH15r67 = true := by kernel_rfl
theorem crH15r68_run : crH15run 71 crH15r68 = true := by kernel_rfl
theorem crH15r69_run : crH15run 85 crH15r69 = true := by kernel_rfl
theorem crH15r70_run : crH15run 15 crH15r70 = true := by kernel_rfl
theorem crH15r71_run : crH15run 85 crH15r71 = true := by kernel_rfl
theorem crH15r72_run : crH15run 70 crH15r72 = true := by kernel_rfl
theorem crH15r73_run : crH15run 71 crH15r73 = true := by kernel_rfl
theorem crH15r74_run : crH15run 85 crH15r74 = true := by kernel_rfl
theorem crH15r75_run : crH15run 15 crH15r75 = true := by kernel_rfl
theorem crH15r76_run : crH15run 85 crH15r76 = true := by kernel_rfl
theorem crH15r77_run : crH15run 70 crH15r77 = true := by kernel_rfl
theorem crH15r78_run : crH15run 71 crH15r78 = true := by kernel_rfl
theorem crH15r79_run : crH15run 85 crH15r79 = true := by kernel_rfl
theorem crH15r80_run : crH15run 15 crH15r80 = true := by kernel_rfl
theorem crH15r81_run : crH15run 85 crH15r81 = true := by kernel_rfl
theorem crH15r82_run : crH15run 70 crH15r82 = true := by kernel_rfl
theorem crH15r83_run : crH15run 71 crH15r83 = true := by kernel_rfl
theorem crH15r84_run : crH15run 85 crH15r84 = true := by kernel_rfl
theorem crH15r85_run : crH15run 15 crH15r85 = true := by kernel_rfl
theorem crH15r86_run : crH15run 85 crH15r86 = true := by kernel_rfl
theorem crH15r87_run : crH15run 70 crH15r87 = true := by kernel_rfl
theorem crH15r88_run : crH15run 71 crH15r88 = true := by kernel_rfl
theorem crH15r89_run : crH15run 85 crH15r89 = true := by kernel_rfl
theorem crH15r90_run : crH15run 15 crH15r90 = true := by kernel_rfl
theorem crH15r91_run : crH15run 85 crH15r91 = true := by kernel_rfl
theorem crH15r92_run : crH15run 70 crH15r92 = true := by kernel_rfl
theorem crH15r93_run : crH15run 71 crH15r93 = true := by kernel_rfl
theorem crH15r94_run : crH15run 85 crH15r94 = true := by kernel_rfl
theorem crH15r95_run : crH15run 15 crH15r95 = true := by kernel_rfl
theorem crH15r96_run : crH15run 85 crH15r96 = true := by kernel_rfl
theorem crH15r97_run : crH15run 70 crH15r97 = true := by kernel_rfl
theorem crH15r98_run : crH15run 71 crH15r98 = true := by kernel_rfl
theorem crH15r99_run : crH15run 85 crH15r99 = true := by kernel_rfl
theorem crH15r100_run : crH15run 15 crH15r100 = true := by kernel_rfl
theorem crH15r101_run : crH15run 85 crH15r101 = true := by kernel_rfl
theorem crH15r102_run : crH15run 70 crH15r102 = true := by kernel_rfl
theorem crH15r103_run : crH15run 71 crH15r103 = true := by kernel_rfl
theorem crH15r104_run : crH15run 85 crH15r104 = true := by kernel_rfl
theorem crH15r105_run : crH15run 15 crH15r105 = true := by kernel_rfl
theorem crH15r106_run : crH15run 85 crH15r106 = true := by kernel_rfl
theorem crH15r107_run : crH15run 70 crH15r107 = true := by kernel_rfl
theorem crH15r108_run : crH15run 71 crH15r108 = true := by kernel_rfl
theorem crH15r109_run : crH15run 85 crH15r109 = true := by kernel_rfl
theorem crH15r110_run : crH15run 15 crH15r110 = true := by kernel_rfl
theorem crH15r111_run : crH15run 85 crH15r111 = true := by kernel_rfl
theorem crH15r112_run : crH15run 70 crH15r112 = true := by kernel_rfl
theorem crH15r113_run : crH15run 71 crH15r113 = true := by kernel_rfl
theorem crH15r114_run : crH15run 85 crH15r114 = true := by kernel_rfl
theorem crH15r115_run : crH15run 15 crH15r115 = true := by kernel_rfl
theorem crH15r116_run : crH15run 85 crH15r116 = true := by kernel_rfl
theorem crH15r117_run : crH15run 70 crH15r117 = true := by kernel_rfl
theorem crH15r118_run : crH15run 71 crH15r118 = true := by kernel_rfl
theorem crH15r119_run : crH15run 15 crH15r119 = true := by kernel_rfl
theorem crH15r120_run : crH15run 85 crH15r120 = true := by kernel_rfl
theorem crH15r121_run : crH15run 85 crH15r121 = true := by kernel_rfl
theorem crH15r122_run : crH15run 85 crH15r122 = true := by kernel_rfl
theorem crH15r123_run : crH15run 85 crH15r123 = true := by kernel_rfl
theorem crH15r124_run : crH15run 85 crH15r124 = true := by kernel_rfl
theorem crH15r125_run : crH15run 85 crH15r125 = true := by kernel_rfl
theorem crH15r126_run : crH15run 85 crH15r126 = true := by kernel_rfl
theorem crH15r127_run : crH15run 85 crH15r127 = true := by kernel_rfl
theorem crH15r128_run : crH15run 85 crH15r128 = true := by kernel_rfl
theorem crH15r129_run : crH15run 85 crH15r129 = true := by kernel_rfl
theorem crH15r130_run : crH15run 85 crH15r130 = true := by kernel_rfl
theorem crH15r131_run : crH15run 85 crH15r131 = true := by kernel_rfl
theorem crH15r132_run : crH15run 85 crH15r132 = true := by kernel_rfl
theorem crH15r133_run : crH15run 85 crH15r133 = true := by kernel_rfl
theorem crH15r134_run : crH15run 85 crH15r134 = true := by kernel_rfl
theorem crH15r135_run : crH15run 85 crH15r135 = true := by kernel_rfl
theorem crH15r136_run : crH15run 85 crH15r136 = true := by kernel_rfl
theorem crH15r137_run : crH15run 85 crH15r137 = true := by kernel_rfl
theorem crH15r138_run : crH15run 85 crH15r138 = true := by kernel_rfl
theorem crH15r139_run : crH15run 85 crH15r139 = true := by kernel_rfl
theorem crH15r140_run : crH15run 85 crH15r140 = true := by kernel_rfl
theorem crH15r141_run : crH15run 85 crH15r141 = true := by kernel_rfl
theorem crH15r142_run : crH15run 85 crH15r142 = true := by kernel_rfl
theorem crH15r143_run : crH15run 85 crH15r143 = true := by kernel_rfl
theorem crH15r144_run : crH15run 85 crH15r144 = true := by kernel_rfl
theorem crH15r145_run : crH15run 85 crH15r145 = true := by kernel_rfl
theorem crH15r146_run : crH15run 85 crH15r146 = true := by kernel_rfl
theorem crH15r147_run : crH15run 85 crH15r147 = true := by kernel_rfl
theorem crH15r148_run : crH15run 85 crH15r148 = true := by kernel_rfl
theorem crH15r149_run : crH15run 85 crH15r149 = true := by kernel_rfl
theorem crH15r150_run : crH15run 85 crH15r150 = true := by kernel_rfl
theorem crH15r151_run : crH15run 85 crH15r151 = true := by kernel_rfl
theorem crH15r152_run : crH15run 85 crH15r152 = true := by kernel_rfl
theorem crH15r153_run : crH15run 85 crH15r153 = true := by kernel_rfl
theorem crH15r154_run : crH15run 15 crH15r154 = true := by kernel_rfl
theorem crH15r155_run : crH15run 15 crH15r155 = true := by kernel_rfl
end Go.Proofs.YtcgdnhkibjldjaaGreatDoor
