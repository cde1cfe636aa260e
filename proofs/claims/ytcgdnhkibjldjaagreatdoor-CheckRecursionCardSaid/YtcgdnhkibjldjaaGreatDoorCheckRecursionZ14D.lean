/- Part of the proof that the law CheckRecursion answers true: calls within the longest evaluations. No condition. -/
import Derived.Test.YtcgdnhkibjldjaaGreatDoorCheckRecursionD
namespace Go.Proofs.YtcgdnhkibjldjaaGreatDoor
open Go Go.Sh
def crH14b0 : List (Nat × Nat × List SV) := [(139, 9, [.str 1 103, .str 1 104]), (200, 115, [.str 4 811678310, .int .i64 (0), .str 4 828455526, .int .i64 (0), .str 4 845232742, .int .i64 (0), .str 4 862009958, .int .i64 (0), .str 4 878787174, .int .i64 (0), .str 4 895564390, .int .i64 (0), .str 4 912341606, .int .i64 (0), .str 4 929118822, .int .i64 (0), .str 4 945896038, .int .i64 (0), .str 4 962673254, .int .i64 (0), .str 5 206986885734, .int .i64 (0), .str 5 211281853030, .int .i64 (0), .str 5 215576820326, .int .i64 (0), .str 5 219871787622, .int .i64 (0), .str 5 224166754918, .int .i64 (0)])]
def crH14b1 : List (Nat × Nat × List SV) := [(238, 49, [.nils, .nils])]
def crH14b2 : List (Nat × Nat × List SV) := [(133, 9, [.str 2 12404, .str 2 12660, .str 2 12916, .str 2 13172, .str 2 13428, .str 2 13684, .str 2 13940, .str 2 14196, .str 2 14452, .str 2 14708, .str 3 3158388, .str 3 3223924, .str 3 3289460, .str 3 3354996, .str 3 3420532])]
def crH14b3 : List (Nat × Nat × List SV) := [(242, 49, [.nils, .nils])]
def crH14b4 : List (Nat × Nat × List SV) := [(238, 9, [.str 1 103, .str 1 104]), (200, 115, [.str 4 811678310, .int .i64 (0), .str 4 828455526, .int .i64 (0), .str 4 845232742, .int .i64 (0), .str 4 862009958, .int .i64 (0), .str 4 878787174, .int .i64 (0), .str 4 895564390, .int .i64 (0), .str 4 912341606, .int .i64 (0), .str 4 929118822, .int .i64 (0), .str 4 945896038, .int .i64 (0), .str 4 962673254, .int .i64 (0), .str 5 206986885734, .int .i64 (0), .str 5 211281853030, .int .i64 (0), .str 5 215576820326, .int .i64 (0), .str 5 219871787622, .int .i64 (0), .str 5 224166754918, .int .i64 (0)])]
def crH14b5 : List (Nat × Nat × List SV) := [(239, 9, [.str 1 103, .str 1 104]), (200, 115, [.str 4 811678310, .int .i64 (0), .str 4 828455526, .int .i64 (0), .str 4 845232742, .int .i64 (0), .str 4 862009958, .int .i64 (0), .str 4 878787174, .int .i64 (0), .str 4 895564390, .int .i64 (0), .str 4 912341606, .int .i64 (0), .str 4 929118822, .int .i64 (0), .str 4 945896038, .int .i64 (0), .str 4 962673254, .int .i64 (0), .str 5 206986885734, .int .i64 (0), .str 5 211281853030, .int .i64 (0), .str 5 215576820326, .int .i64 (0), .str 5 219871787622, .int .i64 (0), .str 5 224166754918, .int .i64 (0)])]
def crH14b6 : List (Nat × Nat × List SV) := [(240, 9, [.str 1 103, .str 1 104]), (200, 115, [.str 4 811678310, .int .i64 (0), .str 4 828455526, .int .i64 (0), .str 4 845232742, .int .i64 (0), .str 4 862009958, .int .i64 (0), .str 4 878787174, .int .i64 (0), .str 4 895564390, .int .i64 (0), .str 4 912341606, .int .i64 (0), .str 4 929118822, .int .i64 (0), .str 4 945896038, .int .i64 (0), .str 4 962673254, .int .i64 (0), .str 5 206986885734, .int .i64 (0), .str 5 211281853030, .int .i64 (0), .str 5 215576820326, .int .i64 (0), .str 5 219871787622, .int .i64 (0), .str 5 224166754918, .int .i64 (0)])]
def crH14b7 : List (Nat × Nat × List SV) := [(241, 9, [.str 1 103, .str 1 104]), (200, 115, [.str 4 811678310, .int .i64 (0), .str 4 828455526, .int .i64 (0), .str 4 845232742, .int .i64 (0), .str 4 862009958, .int .i64 (0), .str 4 878787174, .int .i64 (0), .str 4 895564390, .int .i64 (0), .str 4 912341606, .int .i64 (0), .str 4 929118822, .int .i64 (0), .str 4 945896038, .int .i64 (0), .str 4 962673254, .int .i64 (0), .str 5 206986885734, .int .i64 (0), .str 5 211281853030, .int .i64 (0), .str 5 215576820326, .int .i64 (0), .str 5 219871787622, .int .i64 (0), .str 5 224166754918, .int .i64 (0)])]
def crH14b8 : List (Nat × Nat × List SV) := [(242, 9, [.str 1 103, .str 1 104]), (200, 115, [.str 4 811678310, .int .i64 (0), .str 4 828455526, .int .i64 (0), .str 4 845232742, .int .i64 (0), .str 4 862009958, .int .i64 (0), .str 4 878787174, .int .i64 (0), .str 4 895564390, .int .i64 (0), .str 4 912341606, .int .i64 (0), .str 4 929118822, .int .i64 (0), .str 4 945896038, .int .i64 (0), .str 4 962673254, .int .i64 (0), .str 5 206986885734, .int .i64 (0), .str 5 211281853030, .int .i64 (0), .str 5 215576820326, .int .i64 (0), .str 5 219871787622, .int .i64 (0), .str 5 224166754918, .int .i64 (0)])]
def crH14b9 : List (Nat × Nat × List SV) := [(243, 9, [.str 1 103, .str 1 104]), (200, 115, [.str 4 811678310, .int .i64 (0), .str 4 828455526, .int .i64 (0), .str 4 845232742, .int .i64 (0), .str 4 862009958, .int .i64 (0), .str 4 878787174, .int .i64 (0), .str 4 895564390, .int .i64 (0), .str 4 912341606, .int .i64 (0), .str 4 929118822, .int .i64 (0), .str 4 945896038, .int .i64 (0), .str 4 962673254, .int .i64 (0), .str 5 206986885734, .int .i64 (0), .str 5 211281853030, .int .i64 (0), .str 5 215576820326, .int .i64 (0), .str 5 219871787622, .int .i64 (0), .str 5 224166754918, .int .i64 (0)])]
def crH14b10 : List (Nat × Nat × List SV) := [(244, 9, [.str 1 103, .str 1 104]), (200, 115, [.str 4 811678310, .int .i64 (0), .str 4 828455526, .int .i64 (0), .str 4 845232742, .int .i64 (0), .str 4 862009958, .int .i64 (0), .str 4 878787174, .int .i64 (0), .str 4 895564390, .int .i64 (0), .str 4 912341606, .int .i64 (0), .str 4 929118822, .int .i64 (0), .str 4 945896038, .int .i64 (0), .str 4 962673254, .int .i64 (0), .str 5 206986885734, .int .i64 (0), .str 5 211281853030, .int .i64 (0), .str 5 215576820326, .int .i64 (0), .str 5 219871787622, .int .i64 (0), .str 5 224166754918, .int .i64 (0)])]
def crH14b11 : List (Nat × Nat × List SV) := [(245, 9, [.str 1 103, .str 1 104]), (200, 115, [.str 4 811678310, .int .i64 (0), .str 4 828455526, .int .i64 (0), .str 4 845232742, .int .i64 (0), .str 4 862009958, .int .i64 (0), .str 4 878787174, .int .i64 (0), .str 4 895564390, .int .i64 (0), .str 4 912341606, .int .i64 (0), .str 4 929118822, .int .i64 (0), .str 4 945896038, .int .i64 (0), .str 4 962673254, .int .i64 (0), .str 5 206986885734, .int .i64 (0), .str 5 211281853030, .int .i64 (0), .str 5 215576820326, .int .i64 (0), .str 5 219871787622, .int .i64 (0), .str 5 224166754918, .int .i64 (0)])]
def crH14b12 : List (Nat × Nat × List SV) := [(246, 9, [.str 1 103, .str 1 104]), (200, 115, [.str 4 811678310, .int .i64 (0), .str 4 828455526, .int .i64 (0), .str 4 845232742, .int .i64 (0), .str 4 862009958, .int .i64 (0), .str 4 878787174, .int .i64 (0), .str 4 895564390, .int .i64 (0), .str 4 912341606, .int .i64 (0), .str 4 929118822, .int .i64 (0), .str 4 945896038, .int .i64 (0), .str 4 962673254, .int .i64 (0), .str 5 206986885734, .int .i64 (0), .str 5 211281853030, .int .i64 (0), .str 5 215576820326, .int .i64 (0), .str 5 219871787622, .int .i64 (0), .str 5 224166754918, .int .i64 (0)])]
def crH14b13 : List (Nat × Nat × List SV) := [(247, 9, [.str 1 103, .str 1 104]), (200, 115, [.str 4 811678310, .int .i64 (0), .str 4 828455526, .int .i64 (0), .str 4 845232742, .int .i64 (0), .str 4 862009958, .int .i64 (0), .str 4 878787174, .int .i64 (0), .str 4 895564390, .int .i64 (0), .str 4 912341606, .int .i64 (0), .str 4 929118822, .int .i64 (0), .str 4 945896038, .int .i64 (0), .str 4 962673254, .int .i64 (0), .str 5 206986885734, .int .i64 (0), .str 5 211281853030, .int .i64 (0), .str 5 215576820326, .int .i64 (0), .str 5 219871787622, .int .i64 (0), .str 5 224166754918, .int .i64 (0)])]
def crH14b14 : List (Nat × Nat × List SV) := [(248, 9, [.str 1 103, .str 1 104]), (200, 115, [.str 4 811678310, .int .i64 (0), .str 4 828455526, .int .i64 (0), .str 4 845232742, .int .i64 (0), .str 4 862009958, .int .i64 (0), .str 4 878787174, .int .i64 (0), .str 4 895564390, .int .i64 (0), .str 4 912341606, .int .i64 (0), .str 4 929118822, .int .i64 (0), .str 4 945896038, .int .i64 (0), .str 4 962673254, .int .i64 (0), .str 5 206986885734, .int .i64 (0), .str 5 211281853030, .int .i64 (0), .str 5 215576820326, .int .i64 (0), .str 5 219871787622, .int .i64 (0), .str 5 224166754918, .int .i64 (0)])]
def crH14b15 : List (Nat × Nat × List SV) := [(249, 9, [.str 1 103, .str 1 104]), (200, 115, [.str 4 811678310, .int .i64 (0), .str 4 828455526, .int .i64 (0), .str 4 845232742, .int .i64 (0), .str 4 862009958, .int .i64 (0), .str 4 878787174, .int .i64 (0), .str 4 895564390, .int .i64 (0), .str 4 912341606, .int .i64 (0), .str 4 929118822, .int .i64 (0), .str 4 945896038, .int .i64 (0), .str 4 962673254, .int .i64 (0), .str 5 206986885734, .int .i64 (0), .str 5 211281853030, .int .i64 (0), .str 5 215576820326, .int .i64 (0), .str 5 219871787622, .int .i64 (0), .str 5 224166754918, .int .i64 (0)])]
def crH14b16 : List (Nat × Nat × List SV) := [(250, 9, [.str 1 103, .str 1 104]), (200, 115, [.str 4 811678310, .int .i64 (0), .str 4 828455526, .int .i64 (0), .str 4 845232742, .int .i64 (0), .str 4 862009958, .int .i64 (0), .str 4 878787174, .int .i64 (0), .str 4 895564390, .int .i64 (0), .str 4 912341606, .int .i64 (0), .str 4 929118822, .int .i64 (0), .str 4 945896038, .int .i64 (0), .str 4 962673254, .int .i64 (0), .str 5 206986885734, .int .i64 (0), .str 5 211281853030, .int .i64 (0), .str 5 215576820326, .int .i64 (0), .str 5 219871787622, .int .i64 (0), .str 5 224166754918, .int .i64 (0)])]
def crH14b17 : List (Nat × Nat × List SV) := [(251, 9, [.str 1 103, .str 1 104]), (200, 115, [.str 4 811678310, .int .i64 (0), .str 4 828455526, .int .i64 (0), .str 4 845232742, .int .i64 (0), .str 4 862009958, .int .i64 (0), .str 4 878787174, .int .i64 (0), .str 4 895564390, .int .i64 (0), .str 4 912341606, .int .i64 (0), .str 4 929118822, .int .i64 (0), .str 4 945896038, .int .i64 (0), .str 4 962673254, .int .i64 (0), .str 5 206986885734, .int .i64 (0), .str 5 211281853030, .int .i64 (0), .str 5 215576820326, .int .i64 (0), .str 5 219871787622, .int .i64 (0), .str 5 224166754918, .int .i64 (0)])]
def crH14b18 : List (Nat × Nat × List SV) := [(252, 9, [.str 1 103, .str 1 104]), (200, 115, [.str 4 811678310, .int .i64 (0), .str 4 828455526, .int .i64 (0), .str 4 845232742, .int .i64 (0), .str 4 862009958, .int .i64 (0), .str 4 878787174, .int .i64 (0), .str 4 895564390, .int .i64 (0), .str 4 912341606, .int .i64 (0), .str 4 929118822, .int .i64 (0), .str 4 945896038, .int .i64 (0), .str 4 962673254, .int .i64 (0), .str 5 206986885734, .int .i64 (0), .str 5 211281853030, .int .i64 (0), .str 5 215576820326, .int .i64 (0), .str 5 219871787622, .int .i64 (0), .str 5 224166754918, .int .i64 (0)])]
def crH14b19 : List (Nat × Nat × List SV) := [(255, 49, [.nils, .nils])]
def crH14b20 : List (Nat × Nat × List SV) := [(259, 49, [.nils, .nils])]
def crH14b21 : List (Nat × Nat × List SV) := [(256, 49, [.nils, .nils])]
def crH14b22 : List (Nat × Nat × List SV) := [(260, 49, [.nils, .nils])]
def crH14b23 : List (Nat × Nat × List SV) := [(257, 49, [.nils, .nils])]
def crH14b24 : List (Nat × Nat × List SV) := [(261, 49, [.nils, .nils])]
def crH14b25 : List (Nat × Nat × List SV) := [(258, 49, [.nils, .nils])]
def crH14b26 : List (Nat × Nat × List SV) := [(262, 49, [.nils, .nils])]
def crH14b27 : List (Nat × Nat × List SV) := [(263, 49, [.nils, .nils])]
def crH14b28 : List (Nat × Nat × List SV) := [(264, 49, [.nils, .nils])]
def crH14b29 : List (Nat × Nat × List SV) := [(265, 49, [.nils, .nils])]
def crH14b30 : List (Nat × Nat × List SV) := [(266, 49, [.nils, .nils])]
def crH14b31 : List (Nat × Nat × List SV) := [(267, 49, [.nils, .nils])]
def crH14b32 : List (Nat × Nat × List SV) := [(268, 49, [.nils, .nils])]
def crH14b33 : List (Nat × Nat × List SV) := [(269, 49, [.nils, .nils])]
def crH14b34 : List (Nat × Nat × List SV) := [(270, 49, [.nils, .nils])]
def crH14b35 : List (Nat × Nat × List SV) := [(271, 49, [.nils, .nils])]
def crH14b36 : List (Nat × Nat × List SV) := [(272, 49, [.nils, .nils])]
def crH14b37 : List (Nat × Nat × List SV) := [(273, 49, [.nils, .nils])]
def crH14b38 : List (Nat × Nat × List SV) := [(605, 49, [.nils, .nils])]
def crH14b39 : List (Nat × Nat × List SV) := [(612, 49, [.nils, .nils])]
def crH14b40 : List (Nat × Nat × List SV) := [(620, 49, [.nils, .nils])]
def crH14b41 : List (Nat × Nat × List SV) := [(629, 49, [.nils, .nils])]
def crH14b42 : List (Nat × Nat × List SV) := [(639, 49, [.nils, .nils])]
def crH14b43 : List (Nat × Nat × List SV) := [(650, 49, [.nils, .nils])]
def crH14b44 : List (Nat × Nat × List SV) := [(662, 49, [.nils, .nils])]
def crH14b45 : List (Nat × Nat × List SV) := [(675, 49, [.nils, .nils])]
def crH14b46 : List (Nat × Nat × List SV) := [(689, 49, [.nils, .nils])]
def crH14b47 : List (Nat × Nat × List SV) := [(704, 49, [.nils, .nils])]
def crH14b48 : List (Nat × Nat × List SV) := [(720, 49, [.nils, .nils])]
def crH14b49 : List (Nat × Nat × List SV) := [(737, 49, [.nils, .nils])]
def crH14b50 : List (Nat × Nat × List SV) := [(755, 49, [.nils, .nils])]
def crH14b51 : List (Nat × Nat × List SV) := [(774, 49, [.nils, .nils])]
def crH14b52 : List (Nat × Nat × List SV) := [(794, 49, [.nils, .nils])]
def crH14b53 : List (Nat × Nat × List SV) := [(815, 49, [.nils, .nils])]
def crH14b54 : List (Nat × Nat × List SV) := [(820, 49, [.nils, .nils])]
def crH14b55 : List (Nat × Nat × List SV) := [(1143, 49, [.nils, .nils])]
def crH14b56 : List (Nat × Nat × List SV) := [(1152, 49, [.nils, .nils])]
def crH14b57 : List (Nat × Nat × List SV) := [(1162, 49, [.nils, .nils])]
def crH14b58 : List (Nat × Nat × List SV) := [(1173, 49, [.nils, .nils])]
def crH14b59 : List (Nat × Nat × List SV) := [(1185, 49, [.nils, .nils])]
def crH14b60 : List (Nat × Nat × List SV) := [(1198, 49, [.nils, .nils])]
def crH14b61 : List (Nat × Nat × List SV) := [(1212, 49, [.nils, .nils])]
def crH14b62 : List (Nat × Nat × List SV) := [(1227, 49, [.nils, .nils])]
def crH14b63 : List (Nat × Nat × List SV) := [(1243, 49, [.nils, .nils])]
def crH14b64 : List (Nat × Nat × List SV) := [(1260, 49, [.nils, .nils])]
def crH14b65 : List (Nat × Nat × List SV) := [(1278, 49, [.nils, .nils])]
def crH14b66 : List (Nat × Nat × List SV) := [(1297, 49, [.nils, .nils])]
def crH14b67 : List (Nat × Nat × List SV) := [(1317, 49, [.nils, .nils])]
def crH14b68 : List (Nat × Nat × List SV) := [(1338, 49, [.nils, .nils])]
def crH14b69 : List (Nat × Nat × List SV) := [(1360, 49, [.nils, .nils])]
def crH14b70 : List (Nat × Nat × List SV) := [(1372, 9, [.str 1 103])]
def crH14r0 : KRow := ⟨237, [.agg [.int .i64 (19), .str 0 0, .str 4 811678310, .int .i64 (0), .int .i64 (0), .str 0 0, .int .i64 (0), .int .i64 (0), .str 0 0, .int .i64 (0), .int .i64 (0), .int .i64 (0), .str 0 0, .str 0 0, .nils, .nils], .slo 139 0 2 1, .slo 200 0 15 2], crH14b0, .int .i64 (0), none⟩
def crH14r1 : KRow := ⟨237, [.ptr 86 0, .agg [.int .i64 (19), .str 0 0, .str 4 811678310, .int .i64 (0), .int .i64 (0), .str 0 0, .int .i64 (0), .int .i64 (0), .str 0 0, .int .i64 (0), .int .i64 (0), .int .i64 (0), .str 0 0, .str 0 0, .nils, .nils]], [], .bool true, none⟩
def crH14r2 : KRow := ⟨239, [.slc 238 0 2 2], crH14b1, .nils, none⟩
def crH14r3 : KRow := ⟨241, [.slo 133 0 15 1, .str 2 12404], crH14b2, .bool true, none⟩
def crH14r4 : KRow := ⟨243, [.slc 242 0 2 2], crH14b3, .nils, none⟩
def crH14r5 : KRow := ⟨245, [.agg [.int .i64 (1), .str 0 0, .str 1 103, .int .i64 (0), .int .i64 (0), .str 0 0, .int .i64 (0), .int .i64 (0), .str 0 0, .int .i64 (0), .int .i64 (0), .int .i64 (0), .str 0 0, .str 0 0, .nils, .nils], .slo 139 0 2 1, .slo 200 0 15 2], crH14b0, .int .i64 (0), none⟩
def crH14r6 : KRow := ⟨245, [.ptr 86 0, .agg [.int .i64 (1), .str 0 0, .str 1 103, .int .i64 (0), .int .i64 (0), .str 0 0, .int .i64 (0), .int .i64 (0), .str 0 0, .int .i64 (0), .int .i64 (0), .int .i64 (0), .str 0 0, .str 0 0, .nils, .nils]], [], .bool true, none⟩
def crH14r7 : KRow := ⟨241, [.agg [.int .i64 (19), .str 0 0, .str 4 828455526, .int .i64 (0), .int .i64 (0), .str 0 0, .int .i64 (0), .int .i64 (0), .str 0 0, .int .i64 (0), .int .i64 (0), .int .i64 (0), .str 0 0, .str 0 0, .nils, .nils], .slo 238 0 2 1, .slo 200 0 15 2], crH14b4, .int .i64 (0), none⟩
def crH14r8 : KRow := ⟨241, [.ptr 86 0, .agg [.int .i64 (19), .str 0 0, .str 4 828455526, .int .i64 (0), .int .i64 (0), .str 0 0, .int .i64 (0), .int .i64 (0), .str 0 0, .int .i64 (0), .int .i64 (0), .int .i64 (0), .str 0 0, .str 0 0, .nils, .nils]], [], .bool true, none⟩
def crH14r9 : KRow := ⟨242, [.agg [.int .i64 (19), .str 0 0, .str 4 845232742, .int .i64 (0), .int .i64 (0), .str 0 0, .int .i64 (0), .int .i64 (0), .str 0 0, .int .i64 (0), .int .i64 (0), .int .i64 (0), .str 0 0, .str 0 0, .nils, .nils], .slo 239 0 2 1, .slo 200 0 15 2], crH14b5, .int .i64 (0), none⟩
def crH14r10 : KRow := ⟨242, [.ptr 86 0, .agg [.int .i64 (19), .str 0 0, .str 4 845232742, .int .i64 (0), .int .i64 (0), .str 0 0, .int .i64 (0), .int .i64 (0), .str 0 0, .int .i64 (0), .int .i64 (0), .int .i64 (0), .str 0 0, .str 0 0, .nils, .nils]], [], .bool true, none⟩
def crH14r11 : KRow := ⟨243, [.agg [.int .i64 (19), .str 0 0, .str 4 862009958, .int .i64 (0), .int .i64 (0), .str 0 0, .int .i64 (0), .int .i64 (0), .str 0 0, .int .i64 (0), .int .i64 (0), .int .i64 (0), .str 0 0, .str 0 0, .nils, .nils], .slo 240 0 2 1, .slo 200 0 15 2], crH14b6, .int .i64 (0), none⟩
def crH14r12 : KRow := ⟨243, [.ptr 86 0, .agg [.int .i64 (19), .str 0 0, .str 4 862009958, .int .i64 (0), .int .i64 (0), .str 0 0, .int .i64 (0), .int .i64 (0), .str 0 0, .int .i64 (0), .int .i64 (0), .int .i64 (0), .str 0 0, .str 0 0, .nils, .nils]], [], .bool true, none⟩
def crH14r13 : KRow := ⟨244, [.agg [.int .i64 (19), .str 0 0, .str 4 878787174, .int .i64 (0), .int .i64 (0), .str 0 0, .int .i64 (0), .int .i64 (0), .str 0 0, .int .i64 (0), .int .i64 (0), .int .i64 (0), .str 0 0, .str 0 0, .nils, .nils], .slo 241 0 2 1, .slo 200 0 15 2], crH14b7, .int .i64 (0), none⟩
def crH14r14 : KRow := ⟨244, [.ptr 86 0, .agg [.int .i64 (19), .str 0 0, .str 4 878787174, .int .i64 (0), .int .i64 (0), .str 0 0, .int .i64 (0), .int .i64 (0), .str 0 0, .int .i64 (0), .int .i64 (0), .int .i64 (0), .str 0 0, .str 0 0, .nils, .nils]], [], .bool true, none⟩
def crH14r15 : KRow := ⟨245, [.agg [.int .i64 (19), .str 0 0, .str 4 895564390, .int .i64 (0), .int .i64 (0), .str 0 0, .int .i64 (0), .int .i64 (0), .str 0 0, .int .i64 (0), .int .i64 (0), .int .i64 (0), .str 0 0, .str 0 0, .nils, .nils], .slo 242 0 2 1, .slo 200 0 15 2], crH14b8, .int .i64 (0), none⟩
def crH14r16 : KRow := ⟨245, [.ptr 86 0, .agg [.int .i64 (19), .str 0 0, .str 4 895564390, .int .i64 (0), .int .i64 (0), .str 0 0, .int .i64 (0), .int .i64 (0), .str 0 0, .int .i64 (0), .int .i64 (0), .int .i64 (0), .str 0 0, .str 0 0, .nils, .nils]], [], .bool true, none⟩
def crH14r17 : KRow := ⟨246, [.agg [.int .i64 (19), .str 0 0, .str 4 912341606, .int .i64 (0), .int .i64 (0), .str 0 0, .int .i64 (0), .int .i64 (0), .str 0 0, .int .i64 (0), .int .i64 (0), .int .i64 (0), .str 0 0, .str 0 0, .nils, .nils], .slo 243 0 2 1, .slo 200 0 15 2], crH14b9, .int .i64 (0), none⟩
def crH14r18 : KRow := ⟨246, [.ptr 86 0, .agg [.int .i64 (19), .str 0 0, .str 4 912341606, .int .i64 (0), .int .i64 (0), .str 0 0, .int .i64 (0), .int .i64 (0), .str 0 0, .int .i64 (0), .int .i64 (0), .int .i64 (0), .str 0 0, .str 0 0, .nils, .nils]], [], .bool true, none⟩
def crH14r19 : KRow := ⟨247, [.agg [.int .i64 (19), .str 0 0, .str 4 929118822, .int .i64 (0), .int .i64 (0), .str 0 0, .int .i64 (0), .int .i64 (0), .str 0 0, .int .i64 (0), .int .i64 (0), .int .i64 (0), .str 0 0, .str 0 0, .nils, .nils], .slo 244 0 2 1, .slo 200 0 15 2], crH14b10, .int .i64 (0), none⟩
def crH14r20 : KRow := ⟨247, [.ptr 86 0, .agg [.int .i64 (19), .str 0 0, .str 4 929118822, .int .i64 (0), .int .i64 (0), .str 0 0, .int .i64 (0), .int .i64 (0), .str 0 0, .int .i64 (0), .int .i64 (0), .int .i64 (0), .str 0 0, .str 0 0, .nils, .nils]], [], .bool true, none⟩
def crH14r21 : KRow := ⟨248, [.agg [.int .i64 (19), .str 0 0, .str 4 945896038, .int .i64 (0), .int .i64 (0), .str 0 0, .int .i64 (0), .int .i64 (0), .str 0 0, .int .i64 (0), .int .i64 (0), .int .i64 (0), .str 0 0, .str 0 0, .nils, .nils], .slo 245 0 2 1, .slo 200 0 15 2], crH14b11, .int .i64 (0), none⟩
def crH14r22 : KRow := ⟨248, [.ptr 86 0, .agg [.int .i64 (19), .str 0 0, .str 4 945896038, .int .i64 (0), .int .i64 (0), .str 0 0, .int .i64 (0), .int .i64 (0), .str 0 0, .int .i64 (0), .int .i64 (0), .int .i64 (0), .str 0 0, .str 0 0, .nils, .nils]], [], .bool true, none⟩
def crH14r23 : KRow := ⟨249, [.agg [.int .i64 (19), .str 0 0, .str 4 962673254, .int .i64 (0), .int .i64 (0), .str 0 0, .int .i64 (0), .int .i64 (0), .str 0 0, .int .i64 (0), .int .i64 (0), .int .i64 (0), .str 0 0, .str 0 0, .nils, .nils], .slo 246 0 2 1, .slo 200 0 15 2], crH14b12, .int .i64 (0), none⟩
def crH14r24 : KRow := ⟨249, [.ptr 86 0, .agg [.int .i64 (19), .str 0 0, .str 4 962673254, .int .i64 (0), .int .i64 (0), .str 0 0, .int .i64 (0), .int .i64 (0), .str 0 0, .int .i64 (0), .int .i64 (0), .int .i64 (0), .str 0 0, .str 0 0, .nils, .nils]], [], .bool true, none⟩
def crH14r25 : KRow := ⟨250, [.agg [.int .i64 (19), .str 0 0, .str 5 206986885734, .int .i64 (0), .int .i64 (0), .str 0 0, .int .i64 (0), .int .i64 (0), .str 0 0, .int .i64 (0), .int .i64 (0), .int .i64 (0), .str 0 0, .str 0 0, .nils, .nils], .slo 247 0 2 1, .slo 200 0 15 2], crH14b13, .int .i64 (0), none⟩
def crH14r26 : KRow := ⟨250, [.ptr 86 0, .agg [.int .i64 (19), .str 0 0, .str 5 206986885734, .int .i64 (0), .int .i64 (0), .str 0 0, .int .i64 (0), .int .i64 (0), .str 0 0, .int .i64 (0), .int .i64 (0), .int .i64 (0), .str 0 0, .str 0 0, .nils, .nils]], [], .bool true, none⟩
def crH14r27 : KRow := ⟨251, [.agg [.int .i64 (19), .str 0 0, .str 5 211281853030, .int .i64 (0), .int .i64 (0), .str 0 0, .int .i64 (0), .int .i64 (0), .str 0 0, .int .i64 (0), .int .i64 (0), .int .i64 (0), .str 0 0, .str 0 0, .nils, .nils], .slo 248 0 2 1, .slo 200 0 15 2], crH14b14, .int .i64 (0), none⟩
def crH14r28 : KRow := ⟨251, [.ptr 86 0, .agg [.int .i64 (19), .str 0 0, .str 5 211281853030, .int .i64 (0), .int .i64 (0), .str 0 0, .int .i64 (0), .int .i64 (0), .str 0 0, .int .i64 (0), .int .i64 (0), .int .i64 (0), .str 0 0, .str 0 0, .nils, .nils]], [], .bool true, none⟩
def crH14r29 : KRow := ⟨252, [.agg [.int .i64 (19), .str 0 0, .str 5 215576820326, .int .i64 (0), .int .i64 (0), .str 0 0, .int .i64 (0), .int .i64 (0), .str 0 0, .int .i64 (0), .int .i64 (0), .int .i64 (0), .str 0 0, .str 0 0, .nils, .nils], .slo 249 0 2 1, .slo 200 0 15 2], crH14b15, .int .i64 (0), none⟩
def crH14r30 : KRow := ⟨252, [.ptr 86 0, .agg [.int .i64 (19), .str 0 0, .str 5 215576820326, .int .i64 (0), .int .i64 (0), .str 0 0, .int .i64 (0), .int .i64 (0), .str 0 0, .int .i64 (0), .int .i64 (0), .int .i64 (0), .str 0 0, .str 0 0, .nils, .nils]], [], .bool true, none⟩
def crH14r31 : KRow := ⟨253, [.agg [.int .i64 (19), .str 0 0, .str 5 219871787622, .int .i64 (0), .int .i64 (0), .str 0 0, .int .i64 (0), .int .i64 (0), .str 0 0, .int .i64 (0), .int .i64 (0), .int .i64 (0), .str 0 0, .str 0 0, .nils, .nils], .slo 250 0 2 1, .slo 200 0 15 2], crH14b16, .int .i64 (0), none⟩
def crH14r32 : KRow := ⟨253, [.ptr 86 0, .agg [.int .i64 (19), .str 0 0, .str 5 219871787622, .int .i64 (0), .int .i64 (0), .str 0 0, .int .i64 (0), .int .i64 (0), .str 0 0, .int .i64 (0), .int .i64 (0), .int .i64 (0), .str 0 0, .str 0 0, .nils, .nils]], [], .bool true, none⟩
def crH14r33 : KRow := ⟨254, [.agg [.int .i64 (19), .str 0 0, .str 5 224166754918, .int .i64 (0), .int .i64 (0), .str 0 0, .int .i64 (0), .int .i64 (0), .str 0 0, .int .i64 (0), .int .i64 (0), .int .i64 (0), .str 0 0, .str 0 0, .nils, .nils], .slo 251 0 2 1, .slo 200 0 15 2], crH14b17, .int .i64 (0), none⟩
def crH14r34 : KRow := ⟨254, [.ptr 86 0, .agg [.int .i64 (19), .str 0 0, .str 5 224166754918, .int .i64 (0), .int .i64 (0), .str 0 0, .int .i64 (0), .int .i64 (0), .str 0 0, .int .i64 (0), .int .i64 (0), .int .i64 (0), .str 0 0, .str 0 0, .nils, .nils]], [], .bool true, none⟩
def crH14r35 : KRow := ⟨255, [.agg [.int .i64 (19), .str 0 0, .str 4 811678310, .int .i64 (0), .int .i64 (0), .str 0 0, .int .i64 (0), .int .i64 (0), .str 0 0, .int .i64 (0), .int .i64 (0), .int .i64 (0), .str 0 0, .str 0 0, .nils, .nils], .slo 252 0 2 1, .slo 200 0 15 2], crH14b18, .int .i64 (0), none⟩
def crH14r36 : KRow := ⟨255, [.ptr 86 0, .agg [.int .i64 (19), .str 0 0, .str 4 811678310, .int .i64 (0), .int .i64 (0), .str 0 0, .int .i64 (0), .int .i64 (0), .str 0 0, .int .i64 (0), .int .i64 (0), .int .i64 (0), .str 0 0, .str 0 0, .nils, .nils]], [], .bool true, none⟩
def crH14r37 : KRow := ⟨256, [.slc 255 0 2 2], crH14b19, .nils, none⟩
def crH14r38 : KRow := ⟨258, [.slo 133 0 15 1, .str 2 12660], crH14b2, .bool true, none⟩
def crH14r39 : KRow := ⟨260, [.slc 259 0 2 2], crH14b20, .nils, none⟩
def crH14r40 : KRow := ⟨262, [.agg [.int .i64 (19), .str 0 0, .str 4 828455526, .int .i64 (0), .int .i64 (0), .str 0 0, .int .i64 (0), .int .i64 (0), .str 0 0, .int .i64 (0), .int .i64 (0), .int .i64 (0), .str 0 0, .str 0 0, .nils, .nils], .slo 139 0 2 1, .slo 200 0 15 2], crH14b0, .int .i64 (0), none⟩
def crH14r41 : KRow := ⟨262, [.ptr 86 0, .agg [.int .i64 (19), .str 0 0, .str 4 828455526, .int .i64 (0), .int .i64 (0), .str 0 0, .int .i64 (0), .int .i64 (0), .str 0 0, .int .i64 (0), .int .i64 (0), .int .i64 (0), .str 0 0, .str 0 0, .nils, .nils]], [], .bool true, none⟩
def crH14r42 : KRow := ⟨257, [.slc 256 0 2 2], crH14b21, .nils, none⟩
def crH14r43 : KRow := ⟨259, [.slo 133 0 15 1, .str 2 12916], crH14b2, .bool true, none⟩
def crH14r44 : KRow := ⟨261, [.slc 260 0 2 2], crH14b22, .nils, none⟩
def crH14r45 : KRow := ⟨263, [.agg [.int .i64 (19), .str 0 0, .str 4 845232742, .int .i64 (0), .int .i64 (0), .str 0 0, .int .i64 (0), .int .i64 (0), .str 0 0, .int .i64 (0), .int .i64 (0), .int .i64 (0), .str 0 0, .str 0 0, .nils, .nils], .slo 139 0 2 1, .slo 200 0 15 2], crH14b0, .int .i64 (0), none⟩
def crH14r46 : KRow := ⟨263, [.ptr 86 0, .agg [.int .i64 (19), .str 0 0, .str 4 845232742, .int .i64 (0), .int .i64 (0), .str 0 0, .int .i64 (0), .int .i64 (0), .str 0 0, .int .i64 (0), .int .i64 (0), .int .i64 (0), .str 0 0, .str 0 0, .nils, .nils]], [], .bool true, none⟩
def crH14r47 : KRow := ⟨258, [.slc 257 0 2 2], crH14b23, .nils, none⟩
def crH14r48 : KRow := ⟨260, [.slo 133 0 15 1, .str 2 13172], crH14b2, .bool true, none⟩
def crH14r49 : KRow := ⟨262, [.slc 261 0 2 2], crH14b24, .nils, none⟩
def crH14r50 : KRow := ⟨264, [.agg [.int .i64 (19), .str 0 0, .str 4 862009958, .int .i64 (0), .int .i64 (0), .str 0 0, .int .i64 (0), .int .i64 (0), .str 0 0, .int .i64 (0), .int .i64 (0), .int .i64 (0), .str 0 0, .str 0 0, .nils, .nils], .slo 139 0 2 1, .slo 200 0 15 2], crH14b0, .int .i64 (0), none⟩
def crH14r51 : KRow := ⟨264, [.ptr 86 0, .agg [.int .i64 (19), .str 0 0, .str 4 862009958, .int .i64 (0), .int .i64 (0), .str 0 0, .int .i64 (0), .int .i64 (0), .str 0 0, .int .i64 (0), .int .i64 (0), .int .i64 (0), .str 0 0, .str 0 0, .nils, .nils]], [], .bool true, none⟩
def crH14r52 : KRow := ⟨259, [.slc 258 0 2 2], crH14b25, .nils, none⟩
def crH14r53 : KRow := ⟨261, [.slo 133 0 15 1, .str 2 13428], crH14b2, .bool true, none⟩
def crH14r54 : KRow := ⟨263, [.slc 262 0 2 2], crH14b26, .nils, none⟩
def crH14r55 : KRow := ⟨265, [.agg [.int .i64 (19), .str 0 0, .str 4 878787174, .int .i64 (0), .int .i64 (0), .str 0 0, .int .i64 (0), .int .i64 (0), .str 0 0, .int .i64 (0), .int .i64 (0), .int .i64 (0), .str 0 0, .str 0 0, .nils, .nils], .slo 139 0 2 1, .slo 200 0 15 2], crH14b0, .int .i64 (0), none⟩
def crH14r56 : KRow := ⟨265, [.ptr 86 0, .agg [.int .i64 (19), .str 0 0, .str 4 878787174, .int .i64 (0), .int .i64 (0), .str 0 0, .int .i64 (0), .int .i64 (0), .str 0 0, .int .i64 (0), .int .i64 (0), .int .i64 (0), .str 0 0, .str 0 0, .nils, .nils]], [], .bool true, none⟩
def crH14r57 : KRow := ⟨260, [.slc 259 0 2 2], crH14b20, .nils, none⟩
def crH14r58 : KRow := ⟨262, [.slo 133 0 15 1, .str 2 13684], crH14b2, .bool true, none⟩
def crH14r59 : KRow := ⟨264, [.slc 263 0 2 2], crH14b27, .nils, none⟩
def crH14r60 : KRow := ⟨266, [.agg [.int .i64 (19), .str 0 0, .str 4 895564390, .int .i64 (0), .int .i64 (0), .str 0 0, .int .i64 (0), .int .i64 (0), .str 0 0, .int .i64 (0), .int .i64 (0), .int .i64 (0), .str 0 0, .str 0 0, .nils, .nils], .slo 139 0 2 1, .slo 200 0 15 2], crH14b0, .int .i64 (0), none⟩
def crH14r61 : KRow := ⟨266, [.ptr 86 0, .agg [.int .i64 (19), .str 0 0, .str 4 895564390, .int .i64 (0), .int .i64 (0), .str 0 0, .int .i64 (0), .int .i64 (0), .str 0 0, .int .i64 (0), .int .i64 (0), .int .i64 (0), .str 0 0, .str 0 0, .nils, .nils]], [], .bool true, none⟩
def crH14r62 : KRow := ⟨261, [.slc 260 0 2 2], crH14b22, .nils, none⟩
def crH14r63 : KRow := ⟨263, [.slo 133 0 15 1, .str 2 13940], crH14b2, .bool true, none⟩
def crH14r64 : KRow := ⟨265, [.slc 264 0 2 2], crH14b28, .nils, none⟩
def crH14r65 : KRow := ⟨267, [.agg [.int .i64 (19), .str 0 0, .str 4 912341606, .int .i64 (0), .int .i64 (0), .str 0 0, .int .i64 (0), .int .i64 (0), .str 0 0, .int .i64 (0), .int .i64 (0), .int .i64 (0), .str 0 0, .str 0 0, .nils, .nils], .slo 139 0 2 1, .slo 200 0 15 2], crH14b0, .int .i64 (0), none⟩
def crH14r66 : KRow := ⟨267, [.ptr 86 0, .agg [.int .i64 (19), .str 0 0, .str 4 912341606, .int .i64 (0), .int .i64 (0), .str 0 0, .int .i64 (0), .int .i64 (0), .str 0 0, .int .i64 (0), .int .i64 (0), .int .i64 (0), .str 0 0, .str 0 0, .nils, .nils]], [], .bool true, none⟩
def crH14r67 : KRow := ⟨262, [.slc 261 0 2 2], crH14b24, .nils, none⟩
def crH14r68 : KRow := ⟨264, [.slo 133 0 15 1, .str 2 14196], crH14b2, .bool true, none⟩
def crH14r69 : KRow := ⟨266, [.slc 265 0 2 2], crH14b29, .nils, none⟩
def crH14r70 : KRow := ⟨268, [.agg [.int .i64 (19), .str 0 0, .str 4 929118822, .int .i64 (0), .int .i64 (0), .str 0 0, .int .i64 (0), .int .i64 (0), .str 0 0, .int .i64 (0), .int .i64 (0), .int .i64 (0), .str 0 0, .str 0 0, .nils, .nils], .slo 139 0 2 1, .slo 200 0 15 2], crH14b0, .int .i64 (0), none⟩
def crH14r71 : KRow := ⟨268, [.ptr 86 0, .agg [.int .i64 (19), .str 0 0, .str 4 929118822, .int .i64 (0), .int .i64 (0), .str 0 0, .int .i64 (0), .int .i64 (0), .str 0 0, .int .i64 (0), .int .i64 (0), .int .i64 (0), .str 0 0, .str 0 0, .nils, .nils]], [], .bool true, none⟩
def crH14r72 : KRow := ⟨263, [.slc 262 0 2 2], crH14b26, .nils, none⟩
def crH14r73 : KRow := ⟨265, [.slo 133 0 15 1, .str 2 14452], crH14b2, .bool true, none⟩
def crH14r74 : KRow := ⟨267, [.slc 266 0 2 2], crH14b30, .nils, none⟩
def crH14r75 : KRow := ⟨269, [.agg [.int .i64 (19), .str 0 0, .str 4 945896038, .int .i64 (0), .int .i64 (0), .str 0 0, .int .i64 (0), .int .i64 (0), .str 0 0, .int .i64 (0), .int .i64 (0), .int .i64 (0), .str 0 0, .str 0 0, .nils, .nils], .slo 139 0 2 1, .slo 200 0 15 2], crH14b0, .int .i64 (0), none⟩
def crH14r76 : KRow := ⟨269, [.ptr 86 0, .agg [.int .i64 (19), .str 0 0, .str 4 945896038, .int .i64 (0), .int .i64 (0), .str 0 0, .int .i64 (0), .int .i64 (0), .str 0 0, .int .i64 (0), .int .i64 (0), .int .i64 (0), .str 0 0, .str 0 0, .nils, .nils]], [], .bool true, none⟩
def crH14r77 : KRow := ⟨264, [.slc 263 0 2 2], crH14b27, .nils, none⟩
def crH14r78 : KRow := ⟨266, [.slo 133 0 15 1, .str 2 14708], crH14b2, .bool true, none⟩
def crH14r79 : KRow := ⟨268, [.slc 267 0 2 2], crH14b31, .nils, none⟩
def crH14r80 : KRow := ⟨270, [.agg [.int .i64 (19), .str 0 0, .str 4 962673254, .int .i64 (0), .int .i64 (0), .str 0 0, .int .i64 (0), .int .i64 (0), .str 0 0, .int .i64 (0), .int .i64 (0), .int .i64 (0), .str 0 0, .str 0 0, .nils, .nils], .slo 139 0 2 1, .slo 200 0 15 2], crH14b0, .int .i64 (0), none⟩
def crH14r81 : KRow := ⟨270, [.ptr 86 0, .agg [.int .i64 (19), .str 0 0, .str 4 962673254, .int .i64 (0), .int .i64 (0), .str 0 0, .int .i64 (0), .int .i64 (0), .str 0 0, .int .i64 (0), .int .i64 (0), .int .i64 (0), .str 0 0, .str 0 0, .nils, .nils]], [], .bool true, none⟩
def crH14r82 : KRow := ⟨265, [.slc 264 0 2 2], crH14b28, .nils, none⟩
def crH14r83 : KRow := ⟨267, [.slo 133 0 15 1, .str 3 3158388], crH14b2, .bool true, none⟩
def crH14r84 : KRow := ⟨269, [.slc 268 0 2 2], crH14b32, .nils, none⟩
def crH14r85 : KRow := ⟨271, [.agg [.int .i64 (19), .str 0 0, .str 5 206986885734, .int .i64 (0), .int .i64 (0), .str 0 0, .int .i64 (0), .int .i64 (0), .str 0 0, .int .i64 (0), .int .i64 (0), .int .i64 (0), .str 0 0, .str 0 0, .nils, .nils], .slo 139 0 2 1, .slo 200 0 15 2], crH14b0, .int .i64 (0), none⟩
def crH14r86 : KRow := ⟨271, [.ptr 86 0, .agg [.int .i64 (19), .str 0 0, .str 5 206986885734, .int .i64 (0), .int .i64 (0), .str 0 0, .int .i64 (0), .int .i64 (0), .str 0 0, .int .i64 (0), .int .i64 (0), .int .i64 (0), .str 0 0, .str 0 0, .nils, .nils]], [], .bool true, none⟩
def crH14r87 : KRow := ⟨266, [.slc 265 0 2 2], crH14b29, .nils, none⟩
def crH14r88 : KRow := ⟨268, [.slo 133 0 15 1, .str 3 3223924], crH14b2, .bool true, none⟩
def crH14r89 : KRow := ⟨270, [.slc 269 0 2 2], crH14b33, .nils, none⟩
def crH14r90 : KRow := ⟨272, [.agg [.int .i64 (19), .str 0 0, .str 5 211281853030, .int .i64 (0), .int .i64 (0), .str 0 0, .int .i64 (0), .int .i64 (0), .str 0 0, .int .i64 (0), .int .i64 (0), .int .i64 (0), .str 0 0, .str 0 0, .nils, .nils], .slo 139 0 2 1, .slo 200 0 15 2], crH14b0, .int .i64 (0), none⟩
def crH14r91 : KRow := ⟨272, [.ptr 86 0, .agg [.int .i64 (19), .str 0 0, .str 5 211281853030, .int .i64 (0), .int .i64 (0), .str 0 0, .int .i64 (0), .int .i64 (0), .str 0 0, .int .i64 (0), .int .i64 (0), .int .i64 (0), .str 0 0, .str 0 0, .nils, .nils]], [], .bool true, none⟩
def crH14r92 : KRow := ⟨267, [.slc 266 0 2 2], crH14b30, .nils, none⟩
def crH14r93 : KRow := ⟨269, [.slo 133 0 15 1, .str 3 3289460], crH14b2, .bool true, none⟩
def crH14r94 : KRow := ⟨271, [.slc 270 0 2 2], crH14b34, .nils, none⟩
def crH14r95 : KRow := ⟨273, [.agg [.int .i64 (19), .str 0 0, .str 5 215576820326, .int .i64 (0), .int .i64 (0), .str 0 0, .int .i64 (0), .int .i64 (0), .str 0 0, .int .i64 (0), .int .i64 (0), .int .i64 (0), .str 0 0, .str 0 0, .nils, .nils], .slo 139 0 2 1, .slo 200 0 15 2], crH14b0, .int .i64 (0), none⟩
def crH14r96 : KRow := ⟨273, [.ptr 86 0, .agg [.int .i64 (19), .str 0 0, .str 5 215576820326, .int .i64 (0), .int .i64 (0), .str 0 0, .int .i64 (0), .int .i64 (0), .str 0 0, .int .i64 (0), .int .i64 (0), .int .i64 (0), .str 0 0, .str 0 0, .nils, .nils]], [], .bool true, none⟩
def crH14r97 : KRow := ⟨268, [.slc 267 0 2 2], crH14b31, .nils, none⟩
def crH14r98 : KRow := ⟨270, [.slo 133 0 15 1, .str 3 3354996], crH14b2, .bool true, none⟩
def crH14r99 : KRow := ⟨272, [.slc 271 0 2 2], crH14b35, .nils, none⟩
def crH14r100 : KRow := ⟨274, [.agg [.int .i64 (19), .str 0 0, .str 5 219871787622, .int .i64 (0), .int .i64 (0), .str 0 0, .int .i64 (0), .int .i64 (0), .str 0 0, .int .i64 (0), .int .i64 (0), .int .i64 (0), .str 0 0, .str 0 0, .nils, .nils], .slo 139 0 2 1, .slo 200 0 15 2], crH14b0, .int .i64 (0), none⟩
def crH14r101 : KRow := ⟨274, [.ptr 86 0, .agg [.int .i64 (19), .str 0 0, .str 5 219871787622, .int .i64 (0), .int .i64 (0), .str 0 0, .int .i64 (0), .int .i64 (0), .str 0 0, .int .i64 (0), .int .i64 (0), .int .i64 (0), .str 0 0, .str 0 0, .nils, .nils]], [], .bool true, none⟩
def crH14r102 : KRow := ⟨269, [.slc 268 0 2 2], crH14b32, .nils, none⟩
def crH14r103 : KRow := ⟨271, [.slo 133 0 15 1, .str 3 3420532], crH14b2, .bool true, none⟩
def crH14r104 : KRow := ⟨273, [.slc 272 0 2 2], crH14b36, .nils, none⟩
def crH14r105 : KRow := ⟨275, [.agg [.int .i64 (19), .str 0 0, .str 5 224166754918, .int .i64 (0), .int .i64 (0), .str 0 0, .int .i64 (0), .int .i64 (0), .str 0 0, .int .i64 (0), .int .i64 (0), .int .i64 (0), .str 0 0, .str 0 0, .nils, .nils], .slo 139 0 2 1, .slo 200 0 15 2], crH14b0, .int .i64 (0), none⟩
def crH14r106 : KRow := ⟨275, [.ptr 86 0, .agg [.int .i64 (19), .str 0 0, .str 5 224166754918, .int .i64 (0), .int .i64 (0), .str 0 0, .int .i64 (0), .int .i64 (0), .str 0 0, .int .i64 (0), .int .i64 (0), .int .i64 (0), .str 0 0, .str 0 0, .nils, .nils]], [], .bool true, none⟩
def crH14r107 : KRow := ⟨270, [.slc 269 0 2 2], crH14b33, .nils, none⟩
def crH14r108 : KRow := ⟨272, [.slo 133 0 15 1, .str 2 12404], crH14b2, .bool true, none⟩
def crH14r109 : KRow := ⟨274, [.slc 273 0 2 2], crH14b37, .nils, none⟩
def crH14r110 : KRow := ⟨276, [.agg [.int .i64 (19), .str 0 0, .str 4 811678310, .int .i64 (0), .int .i64 (0), .str 0 0, .int .i64 (0), .int .i64 (0), .str 0 0, .int .i64 (0), .int .i64 (0), .int .i64 (0), .str 0 0, .str 0 0, .nils, .nils], .slo 139 0 2 1, .slo 200 0 15 2], crH14b0, .int .i64 (0), none⟩
def crH14r111 : KRow := ⟨276, [.ptr 86 0, .agg [.int .i64 (19), .str 0 0, .str 4 811678310, .int .i64 (0), .int .i64 (0), .str 0 0, .int .i64 (0), .int .i64 (0), .str 0 0, .int .i64 (0), .int .i64 (0), .int .i64 (0), .str 0 0, .str 0 0, .nils, .nils]], [], .bool true, none⟩
def crH14r112 : KRow := ⟨594, [.nils, .str 1 103], [], .bool false, none⟩
def crH14r113 : KRow := ⟨606, [.slc 605 0 2 2], crH14b38, .nils, none⟩
def crH14r114 : KRow := ⟨613, [.slc 612 0 2 2], crH14b39, .nils, none⟩
def crH14r115 : KRow := ⟨621, [.slc 620 0 2 2], crH14b40, .nils, none⟩
def crH14r116 : KRow := ⟨630, [.slc 629 0 2 2], crH14b41, .nils, none⟩
def crH14r117 : KRow := ⟨640, [.slc 639 0 2 2], crH14b42, .nils, none⟩
def crH14r118 : KRow := ⟨651, [.slc 650 0 2 2], crH14b43, .nils, none⟩
def crH14r119 : KRow := ⟨663, [.slc 662 0 2 2], crH14b44, .nils, none⟩
def crH14r120 : KRow := ⟨676, [.slc 675 0 2 2], crH14b45, .nils, none⟩
def crH14r121 : KRow := ⟨690, [.slc 689 0 2 2], crH14b46, .nils, none⟩
def crH14r122 : KRow := ⟨705, [.slc 704 0 2 2], crH14b47, .nils, none⟩
def crH14r123 : KRow := ⟨721, [.slc 720 0 2 2], crH14b48, .nils, none⟩
def crH14r124 : KRow := ⟨738, [.slc 737 0 2 2], crH14b49, .nils, none⟩
def crH14r125 : KRow := ⟨756, [.slc 755 0 2 2], crH14b50, .nils, none⟩
def crH14r126 : KRow := ⟨775, [.slc 774 0 2 2], crH14b51, .nils, none⟩
def crH14r127 : KRow := ⟨795, [.slc 794 0 2 2], crH14b52, .nils, none⟩
def crH14r128 : KRow := ⟨816, [.slc 815 0 2 2], crH14b53, .nils, none⟩
def crH14r129 : KRow := ⟨821, [.slc 820 0 2 2], crH14b54, .nils, none⟩
def crH14r130 : KRow := ⟨1144, [.slc 1143 0 2 2], crH14b55, .nils, none⟩
def crH14r131 : KRow := ⟨1153, [.slc 1152 0 2 2], crH14b56, .nils, none⟩
def crH14r132 : KRow := ⟨1163, [.slc 1162 0 2 2], crH14b57, .nils, none⟩
def crH14r133 : KRow := ⟨1174, [.slc 1173 0 2 2], crH14b58, .nils, none⟩
def crH14r134 : KRow := ⟨1186, [.slc 1185 0 2 2], crH14b59, .nils, none⟩
def crH14r135 : KRow := ⟨1199, [.slc 1198 0 2 2], crH14b60, .nils, none⟩
def crH14r136 : KRow := ⟨1213, [.slc 1212 0 2 2], crH14b61, .nils, none⟩
def crH14r137 : KRow := ⟨1228, [.slc 1227 0 2 2], crH14b62, .nils, none⟩
def crH14r138 : KRow := ⟨1244, [.slc 1243 0 2 2], crH14b63, .nils, none⟩
def crH14r139 : KRow := ⟨1261, [.slc 1260 0 2 2], crH14b64, .nils, none⟩
def crH14r140 : KRow := ⟨1279, [.slc 1278 0 2 2], crH14b65, .nils, none⟩
def crH14r141 : KRow := ⟨1298, [.slc 1297 0 2 2], crH14b66, .nils, none⟩
def crH14r142 : KRow := ⟨1318, [.slc 1317 0 2 2], crH14b67, .nils, none⟩
def crH14r143 : KRow := ⟨1339, [.slc 1338 0 2 2], crH14b68, .nils, none⟩
def crH14r144 : KRow := ⟨1361, [.slc 1360 0 2 2], crH14b69, .nils, none⟩
def crH14r145 : KRow := ⟨1370, [.nils, .str 1 103], [], .bool false, none⟩
def crH14r146 : KRow := ⟨1379, [.slo 1372 0 1 1, .str 1 104], crH14b70, .bool false, none⟩
def crZ14 (f : Nat) : Option XK := cond (Nat.beq f 15) (some (.known [crH14r3, crH14r38, crH14r43, crH14r48, crH14r53, crH14r58, crH14r63, crH14r68, crH14r73, crH14r78, crH14r83, crH14r88, crH14r93, crH14r98, crH14r103, crH14r108, crH14r112, crH14r145, crH14r146])) (cond (Nat.beq f 70) (some (.known [crH14r0, crH14r5, crH14r7, crH14r9, crH14r11, crH14r13, crH14r15, crH14r17, crH14r19, crH14r21, crH14r23, crH14r25, crH14r27, crH14r29, crH14r31, crH14r33, crH14r35, crH14r40, crH14r45, crH14r50, crH14r55, crH14r60, crH14r65, crH14r70, crH14r75, crH14r80, crH14r85, crH14r90, crH14r95, crH14r100, crH14r105, crH14r110])) (cond (Nat.beq f 71) (some (.known [crH14r1, crH14r6, crH14r8, crH14r10, crH14r12, crH14r14, crH14r16, crH14r18, crH14r20, crH14r22, crH14r24, crH14r26, crH14r28, crH14r30, crH14r32, crH14r34, crH14r36, crH14r41, crH14r46, crH14r51, crH14r56, crH14r61, crH14r66, crH14r71, crH14r76, crH14r81, crH14r86, crH14r91, crH14r96, crH14r101, crH14r106, crH14r111])) (cond (Nat.beq f 85) (some (.known [crH14r2, crH14r4, crH14r37, crH14r39, crH14r42, crH14r44, crH14r47, crH14r49, crH14r52, crH14r54, crH14r57, crH14r59, crH14r62, crH14r64, crH14r67, crH14r69, crH14r72, crH14r74, crH14r77, crH14r79, crH14r82, crH14r84, crH14r87, crH14r89, crH14r92, crH14r94, crH14r97, crH14r99, crH14r102, crH14r104, crH14r107, crH14r109, crH14r113, crH14r114, crH14r115, crH14r116, crH14r117, crH14r118, crH14r119, crH14r120, crH14r121, crH14r122, crH14r123, crH14r124, crH14r125, crH14r126, crH14r127, crH14r128, crH14r129, crH14r130, crH14r131, crH14r132, crH14r133, crH14r134, crH14r135, crH14r136, crH14r137, crH14r138, crH14r139, crH14r140, crH14r141, crH14r142, crH14r143, crH14r144])) (crY f))))
noncomputable def crH14run (f : Nat) (r : KRow) : Bool := (ev crE crY Tryz.prog 1001).f.f f r.args ⟨crHp (crHp .e crBs) r.bs, r.nx, big⟩ (rowEnd r) (fun _ _ => false)
theorem crH14r0_run : crH14run 70 crH14r0 = true := by kernel_rfl
theorem crH14r1_run : crH14run 71 crH14r1 = true := by kernel_rfl
theorem crH14r2_run : crH14run 85 crH14r2 = true := by kernel_rfl
theorem crH14r3_run : crH14run 15 crH14r3 = true := by kernel_rfl
theorem crH14r4_run : crH14run 85 crH14r4 = true := by kernel_rfl
theorem crH14r5_run : crH14run 70 crH14r5 = true := by kernel_rfl
theorem crH14r6_run : crH14run 71 crH14r6 = true := by kernel_rfl
theorem crH14r7_run : crH14run 70 crH14r7 = true := by kernel_rfl
theorem crH14r8_run : crH14run 71 crH14r8 = true := by kernel_rfl
theorem crH14r9_run : crH14run 70 crH14r9 = true := by kernel_rfl
theorem crH14r10_run : crH14run 71 crH14r10 = true := by kernel_rfl
theorem crH14r11_run : crH14run 70 crH14r11 = true := by kernel_rfl
theorem crH14r12_run : crH14run 71 crH14r12 = true := by kernel_rfl
theorem crH14r13_run : crH14run 70 crH14r13 = true := by kernel_rfl
theorem crH14r14_run : crH14run 71 crH14r14 = true := by kernel_rfl
theorem crH14r15_run : crH14run 70 crH14r15 = true := by kernel_rfl
theorem crH14r16_run : crH14run 71 crH14r16 = true := by kernel_rfl
theorem crH14r17_run : crH14run 70 crH14r17 = true := by kernel_rfl
theorem crH14r18_run : crH14run 71 crH14r18 = true := by kernel_rfl
theorem crH14r19_run : crH14run 70 crH14r19 = true := by kernel_rfl
theorem crH14r20_run : crH14run 71 crH14r20 = true := by kernel_rfl
theorem crH14r21_run : crH14run 70 crH14r21 = true := by kernel_rfl
theorem crH14r22_run : crH14run 71 crH14r22 = true := by kernel_rfl
theorem crH14r23_run : crH14run 70 crH14r23 = true := by kernel_rfl
theorem crH14r24_run : crH14run 71 crH14r24 = true := by kernel_rfl
theorem crH14r25_run : crH14run 70 crH14r25 = true := by kernel_rfl
theorem crH14r26_run : crH14run 71 crH14r26 = true := by kernel_rfl
theorem crH14r27_run : crH14run 70 crH14r27 = true := by kernel_rfl
theorem crH14r28_run : crH14run 71 crH14r28 = true := by kernel_rfl
theorem crH14r29_run : crH14run 70 crH14r29 = true := by kernel_rfl
theorem crH14r30_run : crH14run 71 crH14r30 = true := by kernel_rfl
theorem crH14r31_run : crH14run 70 crH14r31 = true := by kernel_rfl
theorem crH14r32_run : crH14run 71 crH14r32 = true := by kernel_rfl
theorem crH14r33_run : crH14run 70 crH14r33 = true := by kernel_rfl
theorem crH14r34_run : crH14run 71 crH14r34 = true := by kernel_rfl
theorem crH14r35_run : crH14run 70 crH14r35 = true := by kernel_rfl
theorem crH14r36_run : crH14run 71 crH14r36 = true := by kernel_rfl
theorem crH14r37_run : crH14run 85 crH14r37 = true := by kernel_rfl
theorem crH14r38_run : crH14run 15 crH14r38 = true := by kernel_rfl
theorem crH14r39_run : crH14run 85 crH14r39 = true := by kernel_rfl
theorem crH14r40_run : crH14run 70 crH14r40 = true := by kernel_rfl
theorem crH14r41_run : crH14run 71 crH14r41 = true := by kernel_rfl
theorem crH14r42_run : crH14run 85 crH14r42 = true := by kernel_rfl
theorem crH14r43_run : crH14run 15 crH14r43 = true := by kernel_rfl
theorem crH14r44_run : crH14run 85 crH14r44 = true := by kernel_rfl
theorem crH14r45_run : crH14run 70 crH14r45 = true := by kernel_rfl
theorem crH14r46_run : crH14run 71 crH14r46 = true := by kernel_rfl
theorem crH14r47_run : crH14run 85 crH14r47 = true := by kernel_rfl
theorem crH14r48_run : crH14run 15 crH14r48 = true := by kernel_rfl
theorem crH14r49_run : crH14run 85 crH14r49 = true := by kernel_rfl
theorem crH14r50_run : crH14run 70 crH14r50 = true := by kernel_rfl
theorem crH14r51_run : crH14run 71 crH14r51 = true := by kernel_rfl
theorem crH14r52_run : crH14run 85 crH14r52 = true := by kernel_rfl
theorem crH14r53_run : crH14run 15 crH14r53 = true := by kernel_rfl
theorem crH14r54_run : crH14run 85 crH14r54 = true := by kernel_rfl
theorem crH14r55_run : crH14run 70 crH14r55 = true := by kernel_rfl
theorem crH14r56_run : crH14run 71 crH14r56 = true := by kernel_rfl
theorem crH14r57_run : crH14run 85 crH14r57 = true := by kernel_rfl
theorem crH14r58_run : crH14run 15 crH14r58 = true := by kernel_rfl
theorem crH14r59_run : crH14run 85 crH14r59 = true := by kernel_rfl
theorem crH14r60_run : crH14run 70 crH14r60 = true := by kernel_rfl
theorem crH14r61_run : crH14run 71 crH14r61 = true := by kernel_rfl
theorem crH14r62_run : crH14run 85 crH14r62 = true := by kernel_rfl
theorem crH14r63_run : crH14run 15 crH14r63 = true := by kernel_rfl
theorem crH14r64_run : crH14run 85 crH14r64 = true := by kernel_rfl
theorem crH14r65_run : crH14run 70 crH14r65 = true := by kernel_rfl
theorem crH14r66_run : crH14run 71 crH14r66 = true := by kernel_rfl
theorem crH14r67_run : crH14run 85 crH14r67 = true := by kernel_rfl
theorem crH14r68_run : crH14run 15 crH14r68 = true := by kernel_rfl
theorem crH14r69_run : crH14run 85 crH14r69 = true := by kernel_rfl
theorem crH14r70_run : crH14run 70 crH14r70 = true := by kernel_rfl
theorem crH14r71_run : crH14run 71 crH14r71 = true := by kernel_rfl
theorem crH14r72_run : crH14run 85 crH14r72 = true := by kernel_rfl
theorem crH14r73_run : crH14run 15 crH14r73 = true := by kernel_rfl
theorem crH14r74_run : crH14run 85 crH14r74 = true := by kernel_rfl
theorem crH14r75_run : crH14run 70 crH14r75 = true := by kernel_rfl
theorem crH14r76_run : crH14run 71 crH14r76 = true := by kernel_rfl
theorem crH14r77_run : crH14run 85 crH14r77 = true := by kernel_rfl
theorem crH14r78_run : crH14run 15 crH14r78 = true := by kernel_rfl
theorem crH14r79_run : crH14run 85 crH14r79 = true := by kernel_rfl
theorem crH14r80_run : crH14run 70 crH14r80 = true := by kernel_rfl
theorem crH14r81_run : crH14run 71 crH14r81 = true := by kernel_rfl
theorem crH14r82_run : crH14run 85 crH14r82 = true := by kernel_rfl
theorem crH14r83_run : crH14run 15 crH14r83 = true := by kernel_rfl
theorem crH14r84_run : crH14run 85 crH14r84 = true := by kernel_rfl
theorem crH14r85_run : crH14run 70 crH14r85 = true := by kernel_rfl
theorem crH14r86_run : crH14run 71 crH14r86 = true := by kernel_rfl
theorem crH14r87_run : crH14run 85 crH14r87 = true := by kernel_rfl
theorem crH14r88_run : crH14run 15 crH14r88 = true := by kernel_rfl
theorem crH14r89_run : crH14run 85 crH14r89 = true := by kernel_rfl
theorem crH14r90_run : crH14run 70 crH14r90 = true := by kernel_rfl
theorem crH14r91_run : crH14run 71 crH14r91 = true := by kernel_rfl
theorem crH14r92_run : crH14run 85 crH14r92 = true := by kernel_rfl
theorem crH14r93_run : crH14run 15 crH14r93 = true := by kernel_rfl
theorem crH14r94_run : crH14run 85 crH14r94 = true := by kernel_rfl
theorem crH14r95_run : crH14run 70 crH14r95 = true := by kernel_rfl
theorem crH14r96_run : crH14run 71 crH14r96 = true := by kernel_rfl
theorem crH14r97_run : crH14run 85 crH14r97 = true := by kernel_rfl
theorem crH14r98_run : crH14run 15 crH14r98 = true := by kernel_rfl
theorem crH14r99_run : crH14run 85 crH14r99 = true := by kernel_rfl
theorem crH14r100_run : crH14run 70 crH14r100 = true := by kernel_rfl
theorem crH14r101_run : crH14run 71 crH14r101 = true := by kernel_rfl
theorem crH14r102_run : crH14run 85 crH14r102 = true := by kernel_rfl
theorem crH14r103_run : crH14run 15 crH14r103 = true := by kernel_rfl
theorem crH14r104_run : crH14run 85 crH14r104 = true := by kernel_rfl
theorem crH14r105_run : crH14run 70 crH14r105 = true := by kernel_rfl
theorem crH14r106_run : crH14run 71 crH14r106 = true := by kernel_rfl
theorem crH14r107_run : crH14run 85 crH14r107 = true := by kernel_rfl
theorem crH14r108_run : crH14run 15 crH14r108 = true := by kernel_rfl
theorem crH14r109_run : crH14run 85 crH14r109 = true := by kernel_rfl
theorem crH14r110_run : crH14run 70 crH14r110 = true := by kernel_rfl
theorem crH14r111_run : crH14run 71 crH14r111 = true := by kernel_rfl
theorem crH14r112_run : crH14run 15 crH14r112 = true := by kernel_rfl
theorem crH14r113_run : crH14run 85 crH14r113 = true := by kernel_rfl
theorem crH14r114_run : crH14run 85 crH14r114 = true := by kernel_rfl
theorem crH14r115_run : crH14run 85 crH14r115 = true := by kernel_rfl
theorem crH14r116_run : crH14run 85 crH14r116 = true := by kernel_rfl
theorem crH14r117_run : crH14run 85 crH14r117 = true := by kernel_rfl
theorem crH14r118_run : crH14run 85 crH14r118 = true := by kernel_rfl
theorem crH14r119_run : crH14run 85 crH14r119 = true := by kernel_rfl
theorem crH14r120_run : crH14run 85 crH14r120 = true := by kernel_rfl
theorem crH14r121_run : crH14run 85 crH14r121 = true := by kernel_rfl
theorem crH14r122_run : crH14run 85 crH14r122 = true := by kernel_rfl
theorem crH14r123_run : crH14run 85 crH14r123 = true := by kernel_rfl
theorem crH14r124_run : crH14run 85 crH14r124 = true := by kernel_rfl
theorem crH14r125_run : crH14run 85 crH14r125 = true := by kernel_rfl
theorem crH14r126_run : crH14run 85 crH14r126 = true := by kernel_rfl
theorem crH14r127_run : crH14run 85 crH14r127 = true := by kernel_rfl
theorem crH14r128_run : crH14run 85 crH14r128 = true := by kernel_rfl
theorem crH14r129_run : crH14run 85 crH14r129 = true := by kernel_rfl
theorem crH14r130_run : crH14run 85 crH14r130 = true := by kernel_rfl
theorem crH14r131_run : crH14run 85 crH14r131 = true := by kernel_rfl
theorem crH14r132_run : crH14run 85 crH14r132 = true := by kernel_rfl
theorem crH14r133_run : crH14run 85 crH14r133 = true := by kernel_rfl
theorem crH14r134_run : crH14run 85 crH14r134 = true := by kernel_rfl
theorem crH14r135_run : crH14run 85 crH14r135 = true := by kernel_rfl
theorem crH14r136_run : crH14run 85 crH14r136 = true := by kernel_rfl
theorem crH14r137_run : crH14run 85 crH14r137 = true := by kernel_rfl
theorem crH14r138_run : crH14run 85 crH14r138 = true := by kernel_rfl
theorem crH14r139_run : crH14run 85 crH14r139 = true := by kernel_rfl
theorem crH14r140_run : crH14run 85 crH14r140 = true := by kernel_rfl
theorem crH14r141_run : crH14run 85 crH14r141 = true := by kernel_rfl
theorem crH14r142_run : crH14run 85 crH14r142 = true := by kernel_rfl
theorem crH14r143_run : crH14run 85 crH14r143 = true := by kernel_rfl
theorem crH14r144_run : crH14run 85 crH14r144 = true := by kernel_rfl
theorem crH14r145_run : crH14run 15 crH14r145 = true := by kernel_rfl
theorem crH14r146_run : crH14run 15 crH14r146 = true := by kernel_rfl
end Go.Proofs.YtcgdnhkibjldjaaGreatDoor
