/- Part of the proof that the law CheckRecursion answers true: calls within the longest evaluations. No condition. -/
import Derived.Test.YtcgdnhkibjldjaaGreatDoorCheckRecursionD
namespace Go.Proofs.YtcgdnhkibjldjaaGreatDoor
open Go Go.Sh
def crH19b0 : List (Nat × Nat × List SV) := [(179, 9, [.str 1 103, .str 1 104]), (260, 115, [.str 4 811678310, .int .i64 (0), .str 4 828455526, .int .i64 (0), .str 4 845232742, .int .i64 (0), .str 4 862009958, .int .i64 (0), .str 4 878787174, .int .i64 (0), .str 4 895564390, .int .i64 (0), .str 4 912341606, .int .i64 (0), .str 4 929118822, .int .i64 (0), .str 4 945896038, .int .i64 (0), .str 4 962673254, .int .i64 (0), .str 5 206986885734, .int .i64 (0), .str 5 211281853030, .int .i64 (0), .str 5 215576820326, .int .i64 (0), .str 5 219871787622, .int .i64 (0), .str 5 224166754918, .int .i64 (0), .str 5 228461722214, .int .i64 (0), .str 5 232756689510, .int .i64 (0), .str 5 237051656806, .int .i64 (0), .str 5 241346624102, .int .i64 (0), .str 5 245641591398, .int .i64 (0)])]
def crH19b1 : List (Nat × Nat × List SV) := [(308, 49, [.nils, .nils])]
def crH19b2 : List (Nat × Nat × List SV) := [(173, 9, [.str 2 12404, .str 2 12660, .str 2 12916, .str 2 13172, .str 2 13428, .str 2 13684, .str 2 13940, .str 2 14196, .str 2 14452, .str 2 14708, .str 3 3158388, .str 3 3223924, .str 3 3289460, .str 3 3354996, .str 3 3420532, .str 3 3486068, .str 3 3551604, .str 3 3617140, .str 3 3682676, .str 3 3748212])]
def crH19b3 : List (Nat × Nat × List SV) := [(312, 49, [.nils, .nils])]
def crH19b4 : List (Nat × Nat × List SV) := [(308, 9, [.str 1 103, .str 1 104]), (260, 115, [.str 4 811678310, .int .i64 (0), .str 4 828455526, .int .i64 (0), .str 4 845232742, .int .i64 (0), .str 4 862009958, .int .i64 (0), .str 4 878787174, .int .i64 (0), .str 4 895564390, .int .i64 (0), .str 4 912341606, .int .i64 (0), .str 4 929118822, .int .i64 (0), .str 4 945896038, .int .i64 (0), .str 4 962673254, .int .i64 (0), .str 5 206986885734, .int .i64 (0), .str 5 211281853030, .int .i64 (0), .str 5 215576820326, .int .i64 (0), .str 5 219871787622, .int .i64 (0), .str 5 224166754918, .int .i64 (0), .str 5 228461722214, .int .i64 (0), .str 5 232756689510, .int .i64 (0), .str 5 237051656806, .int .i64 (0), .str 5 241346624102, .int .i64 (0), .str 5 245641591398, .int .i64 (0)])]
def crH19b5 : List (Nat × Nat × List SV) := [(309, 9, [.str 1 103, .str 1 104]), (260, 115, [.str 4 811678310, .int .i64 (0), .str 4 828455526, .int .i64 (0), .str 4 845232742, .int .i64 (0), .str 4 862009958, .int .i64 (0), .str 4 878787174, .int .i64 (0), .str 4 895564390, .int .i64 (0), .str 4 912341606, .int .i64 (0), .str 4 929118822, .int .i64 (0), .str 4 945896038, .int .i64 (0), .str 4 962673254, .int .i64 (0), .str 5 206986885734, .int .i64 (0), .str 5 211281853030, .int .i64 (0), .str 5 215576820326, .int .i64 (0), .str 5 219871787622, .int .i64 (0), .str 5 224166754918, .int .i64 (0), .str 5 228461722214, .int .i64 (0), .str 5 232756689510, .int .i64 (0), .str 5 237051656806, .int .i64 (0), .str 5 241346624102, .int .i64 (0), .str 5 245641591398, .int .i64 (0)])]
def crH19b6 : List (Nat × Nat × List SV) := [(310, 9, [.str 1 103, .str 1 104]), (260, 115, [.str 4 811678310, .int .i64 (0), .str 4 828455526, .int .i64 (0), .str 4 845232742, .int .i64 (0), .str 4 862009958, .int .i64 (0), .str 4 878787174, .int .i64 (0), .str 4 895564390, .int .i64 (0), .str 4 912341606, .int .i64 (0), .str 4 929118822, .int .i64 (0), .str 4 945896038, .int .i64 (0), .str 4 962673254, .int .i64 (0), .str 5 206986885734, .int .i64 (0), .str 5 211281853030, .int .i64 (0), .str 5 215576820326, .int .i64 (0), .str 5 219871787622, .int .i64 (0), .str 5 224166754918, .int .i64 (0), .str 5 228461722214, .int .i64 (0), .str 5 232756689510, .int .i64 (0), .str 5 237051656806, .int .i64 (0), .str 5 241346624102, .int .i64 (0), .str 5 245641591398, .int .i64 (0)])]
def crH19b7 : List (Nat × Nat × List SV) := [(311, 9, [.str 1 103, .str 1 104]), (260, 115, [.str 4 811678310, .int .i64 (0), .str 4 828455526, .int .i64 (0), .str 4 845232742, .int .i64 (0), .str 4 862009958, .int .i64 (0), .str 4 878787174, .int .i64 (0), .str 4 895564390, .int .i64 (0), .str 4 912341606, .int .i64 (0), .str 4 929118822, .int .i64 (0), .str 4 945896038, .int .i64 (0), .str 4 962673254, .int .i64 (0), .str 5 206986885734, .int .i64 (0), .str 5 211281853030, .int .i64 (0), .str 5 215576820326, .int .i64 (0), .str 5 219871787622, .int .i64 (0), .str 5 224166754918, .int .i64 (0), .str 5 228461722214, .int .i64 (0), .str 5 232756689510, .int .i64 (0), .str 5 237051656806, .int .i64 (0), .str 5 241346624102, .int .i64 (0), .str 5 245641591398, .int .i64 (0)])]
def crH19b8 : List (Nat × Nat × List SV) := [(312, 9, [.str 1 103, .str 1 104]), (260, 115, [.str 4 811678310, .int .i64 (0), .str 4 828455526, .int .i64 (0), .str 4 845232742, .int .i64 (0), .str 4 862009958, .int .i64 (0), .str 4 878787174, .int .i64 (0), .str 4 895564390, .int .i64 (0), .str 4 912341606, .int .i64 (0), .str 4 929118822, .int .i64 (0), .str 4 945896038, .int .i64 (0), .str 4 962673254, .int .i64 (0), .str 5 206986885734, .int .i64 (0), .str 5 211281853030, .int .i64 (0), .str 5 215576820326, .int .i64 (0), .str 5 219871787622, .int .i64 (0), .str 5 224166754918, .int .i64 (0), .str 5 228461722214, .int .i64 (0), .str 5 232756689510, .int .i64 (0), .str 5 237051656806, .int .i64 (0), .str 5 241346624102, .int .i64 (0), .str 5 245641591398, .int .i64 (0)])]
def crH19b9 : List (Nat × Nat × List SV) := [(313, 9, [.str 1 103, .str 1 104]), (260, 115, [.str 4 811678310, .int .i64 (0), .str 4 828455526, .int .i64 (0), .str 4 845232742, .int .i64 (0), .str 4 862009958, .int .i64 (0), .str 4 878787174, .int .i64 (0), .str 4 895564390, .int .i64 (0), .str 4 912341606, .int .i64 (0), .str 4 929118822, .int .i64 (0), .str 4 945896038, .int .i64 (0), .str 4 962673254, .int .i64 (0), .str 5 206986885734, .int .i64 (0), .str 5 211281853030, .int .i64 (0), .str 5 215576820326, .int .i64 (0), .str 5 219871787622, .int .i64 (0), .str 5 224166754918, .int .i64 (0), .str 5 228461722214, .int .i64 (0), .str 5 232756689510, .int .i64 (0), .str 5 237051656806, .int .i64 (0), .str 5 241346624102, .int .i64 (0), .str 5 245641591398, .int .i64 (0)])]
def crH19b10 : List (Nat × Nat × List SV) := [(314, 9, [.str 1 103, .str 1 104]), (260, 115, [.str 4 811678310, .int .i64 (0), .str 4 828455526, .int .i64 (0), .str 4 845232742, .int .i64 (0), .str 4 862009958, .int .i64 (0), .str 4 878787174, .int .i64 (0), .str 4 895564390, .int .i64 (0), .str 4 912341606, .int .i64 (0), .str 4 929118822, .int .i64 (0), .str 4 945896038, .int .i64 (0), .str 4 962673254, .int .i64 (0), .str 5 206986885734, .int .i64 (0), .str 5 211281853030, .int .i64 (0), .str 5 215576820326, .int .i64 (0), .str 5 219871787622, .int .i64 (0), .str 5 224166754918, .int .i64 (0), .str 5 228461722214, .int .i64 (0), .str 5 232756689510, .int .i64 (0), .str 5 237051656806, .int .i64 (0), .str 5 241346624102, .int .i64 (0), .str 5 245641591398, .int .i64 (0)])]
def crH19b11 : List (Nat × Nat × List SV) := [(315, 9, [.str 1 103, .str 1 104]), (260, 115, [.str 4 811678310, .int .i64 (0), .str 4 828455526, .int .i64 (0), .str 4 845232742, .int .i64 (0), .str 4 862009958, .int .i64 (0), .str 4 878787174, .int .i64 (0), .str 4 895564390, .int .i64 (0), .str 4 912341606, .int .i64 (0), .str 4 929118822, .int .i64 (0), .str 4 945896038, .int .i64 (0), .str 4 962673254, .int .i64 (0), .str 5 206986885734, .int .i64 (0), .str 5 211281853030, .int .i64 (0), .str 5 215576820326, .int .i64 (0), .str 5 219871787622, .int .i64 (0), .str 5 224166754918, .int .i64 (0), .str 5 228461722214, .int .i64 (0), .str 5 232756689510, .int .i64 (0), .str 5 237051656806, .int .i64 (0), .str 5 241346624102, .int .i64 (0), .str 5 245641591398, .int .i64 (0)])]
def crH19b12 : List (Nat × Nat × List SV) := [(316, 9, [.str 1 103, .str 1 104]), (260, 115, [.str 4 811678310, .int .i64 (0), .str 4 828455526, .int .i64 (0), .str 4 845232742, .int .i64 (0), .str 4 862009958, .int .i64 (0), .str 4 878787174, .int .i64 (0), .str 4 895564390, .int .i64 (0), .str 4 912341606, .int .i64 (0), .str 4 929118822, .int .i64 (0), .str 4 945896038, .int .i64 (0), .str 4 962673254, .int .i64 (0), .str 5 206986885734, .int .i64 (0), .str 5 211281853030, .int .i64 (0), .str 5 215576820326, .int .i64 (0), .str 5 219871787622, .int .i64 (0), .str 5 224166754918, .int .i64 (0), .str 5 228461722214, .int .i64 (0), .str 5 232756689510, .int .i64 (0), .str 5 237051656806, .int .i64 (0), .str 5 241346624102, .int .i64 (0), .str 5 245641591398, .int .i64 (0)])]
def crH19b13 : List (Nat × Nat × List SV) := [(317, 9, [.str 1 103, .str 1 104]), (260, 115, [.str 4 811678310, .int .i64 (0), .str 4 828455526, .int .i64 (0), .str 4 845232742, .int .i64 (0), .str 4 862009958, .int .i64 (0), .str 4 878787174, .int .i64 (0), .str 4 895564390, .int .i64 (0), .str 4 912341606, .int .i64 (0), .str 4 929118822, .int .i64 (0), .str 4 945896038, .int .i64 (0), .str 4 962673254, .int .i64 (0), .str 5 206986885734, .int .i64 (0), .str 5 211281853030, .int .i64 (0), .str 5 215576820326, .int .i64 (0), .str 5 219871787622, .int .i64 (0), .str 5 224166754918, .int .i64 (0), .str 5 228461722214, .int .i64 (0), .str 5 232756689510, .int .i64 (0), .str 5 237051656806, .int .i64 (0), .str 5 241346624102, .int .i64 (0), .str 5 245641591398, .int .i64 (0)])]
def crH19b14 : List (Nat × Nat × List SV) := [(318, 9, [.str 1 103, .str 1 104]), (260, 115, [.str 4 811678310, .int .i64 (0), .str 4 828455526, .int .i64 (0), .str 4 845232742, .int .i64 (0), .str 4 862009958, .int .i64 (0), .str 4 878787174, .int .i64 (0), .str 4 895564390, .int .i64 (0), .str 4 912341606, .int .i64 (0), .str 4 929118822, .int .i64 (0), .str 4 945896038, .int .i64 (0), .str 4 962673254, .int .i64 (0), .str 5 206986885734, .int .i64 (0), .str 5 211281853030, .int .i64 (0), .str 5 215576820326, .int .i64 (0), .str 5 219871787622, .int .i64 (0), .str 5 224166754918, .int .i64 (0), .str 5 228461722214, .int .i64 (0), .str 5 232756689510, .int .i64 (0), .str 5 237051656806, .int .i64 (0), .str 5 241346624102, .int .i64 (0), .str 5 245641591398, .int .i64 (0)])]
def crH19b15 : List (Nat × Nat × List SV) := [(319, 9, [.str 1 103, .str 1 104]), (260, 115, [.str 4 811678310, .int .i64 (0), .str 4 828455526, .int .i64 (0), .str 4 845232742, .int .i64 (0), .str 4 862009958, .int .i64 (0), .str 4 878787174, .int .i64 (0), .str 4 895564390, .int .i64 (0), .str 4 912341606, .int .i64 (0), .str 4 929118822, .int .i64 (0), .str 4 945896038, .int .i64 (0), .str 4 962673254, .int .i64 (0), .str 5 206986885734, .int .i64 (0), .str 5 211281853030, .int .i64 (0), .str 5 215576820326, .int .i64 (0), .str 5 219871787622, .int .i64 (0), .str 5 224166754918, .int .i64 (0), .str 5 228461722214, .int .i64 (0), .str 5 232756689510, .int .i64 (0), .str 5 237051656806, .int .i64 (0), .str 5 241346624102, .int .i64 (0), .str 5 245641591398, .int .i64 (0)])]
def crH19b16 : List (Nat × Nat × List SV) := [(320, 9, [.str 1 103, .str 1 104]), (260, 115, [.str 4 811678310, .int .i64 (0), .str 4 828455526, .int .i64 (0), .str 4 845232742, .int .i64 (0), .str 4 862009958, .int .i64 (0), .str 4 878787174, .int .i64 (0), .str 4 895564390, .int .i64 (0), .str 4 912341606, .int .i64 (0), .str 4 929118822, .int .i64 (0), .str 4 945896038, .int .i64 (0), .str 4 962673254, .int .i64 (0), .str 5 206986885734, .int .i64 (0), .str 5 211281853030, .int .i64 (0), .str 5 215576820326, .int .i64 (0), .str 5 219871787622, .int .i64 (0), .str 5 224166754918, .int .i64 (0), .str 5 228461722214, .int .i64 (0), .str 5 232756689510, .int .i64 (0), .str 5 237051656806, .int .i64 (0), .str 5 241346624102, .int .i64 (0), .str 5 245641591398, .int .i64 (0)])]
def crH19b17 : List (Nat × Nat × List SV) := [(321, 9, [.str 1 103, .str 1 104]), (260, 115, [.str 4 811678310, .int .i64 (0), .str 4 828455526, .int .i64 (0), .str 4 845232742, .int .i64 (0), .str 4 862009958, .int .i64 (0), .str 4 878787174, .int .i64 (0), .str 4 895564390, .int .i64 (0), .str 4 912341606, .int .i64 (0), .str 4 929118822, .int .i64 (0), .str 4 945896038, .int .i64 (0), .str 4 962673254, .int .i64 (0), .str 5 206986885734, .int .i64 (0), .str 5 211281853030, .int .i64 (0), .str 5 215576820326, .int .i64 (0), .str 5 219871787622, .int .i64 (0), .str 5 224166754918, .int .i64 (0), .str 5 228461722214, .int .i64 (0), .str 5 232756689510, .int .i64 (0), .str 5 237051656806, .int .i64 (0), .str 5 241346624102, .int .i64 (0), .str 5 245641591398, .int .i64 (0)])]
def crH19b18 : List (Nat × Nat × List SV) := [(322, 9, [.str 1 103, .str 1 104]), (260, 115, [.str 4 811678310, .int .i64 (0), .str 4 828455526, .int .i64 (0), .str 4 845232742, .int .i64 (0), .str 4 862009958, .int .i64 (0), .str 4 878787174, .int .i64 (0), .str 4 895564390, .int .i64 (0), .str 4 912341606, .int .i64 (0), .str 4 929118822, .int .i64 (0), .str 4 945896038, .int .i64 (0), .str 4 962673254, .int .i64 (0), .str 5 206986885734, .int .i64 (0), .str 5 211281853030, .int .i64 (0), .str 5 215576820326, .int .i64 (0), .str 5 219871787622, .int .i64 (0), .str 5 224166754918, .int .i64 (0), .str 5 228461722214, .int .i64 (0), .str 5 232756689510, .int .i64 (0), .str 5 237051656806, .int .i64 (0), .str 5 241346624102, .int .i64 (0), .str 5 245641591398, .int .i64 (0)])]
def crH19b19 : List (Nat × Nat × List SV) := [(323, 9, [.str 1 103, .str 1 104]), (260, 115, [.str 4 811678310, .int .i64 (0), .str 4 828455526, .int .i64 (0), .str 4 845232742, .int .i64 (0), .str 4 862009958, .int .i64 (0), .str 4 878787174, .int .i64 (0), .str 4 895564390, .int .i64 (0), .str 4 912341606, .int .i64 (0), .str 4 929118822, .int .i64 (0), .str 4 945896038, .int .i64 (0), .str 4 962673254, .int .i64 (0), .str 5 206986885734, .int .i64 (0), .str 5 211281853030, .int .i64 (0), .str 5 215576820326, .int .i64 (0), .str 5 219871787622, .int .i64 (0), .str 5 224166754918, .int .i64 (0), .str 5 228461722214, .int .i64 (0), .str 5 232756689510, .int .i64 (0), .str 5 237051656806, .int .i64 (0), .str 5 241346624102, .int .i64 (0), .str 5 245641591398, .int .i64 (0)])]
def crH19b20 : List (Nat × Nat × List SV) := [(324, 9, [.str 1 103, .str 1 104]), (260, 115, [.str 4 811678310, .int .i64 (0), .str 4 828455526, .int .i64 (0), .str 4 845232742, .int .i64 (0), .str 4 862009958, .int .i64 (0), .str 4 878787174, .int .i64 (0), .str 4 895564390, .int .i64 (0), .str 4 912341606, .int .i64 (0), .str 4 929118822, .int .i64 (0), .str 4 945896038, .int .i64 (0), .str 4 962673254, .int .i64 (0), .str 5 206986885734, .int .i64 (0), .str 5 211281853030, .int .i64 (0), .str 5 215576820326, .int .i64 (0), .str 5 219871787622, .int .i64 (0), .str 5 224166754918, .int .i64 (0), .str 5 228461722214, .int .i64 (0), .str 5 232756689510, .int .i64 (0), .str 5 237051656806, .int .i64 (0), .str 5 241346624102, .int .i64 (0), .str 5 245641591398, .int .i64 (0)])]
def crH19b21 : List (Nat × Nat × List SV) := [(325, 9, [.str 1 103, .str 1 104]), (260, 115, [.str 4 811678310, .int .i64 (0), .str 4 828455526, .int .i64 (0), .str 4 845232742, .int .i64 (0), .str 4 862009958, .int .i64 (0), .str 4 878787174, .int .i64 (0), .str 4 895564390, .int .i64 (0), .str 4 912341606, .int .i64 (0), .str 4 929118822, .int .i64 (0), .str 4 945896038, .int .i64 (0), .str 4 962673254, .int .i64 (0), .str 5 206986885734, .int .i64 (0), .str 5 211281853030, .int .i64 (0), .str 5 215576820326, .int .i64 (0), .str 5 219871787622, .int .i64 (0), .str 5 224166754918, .int .i64 (0), .str 5 228461722214, .int .i64 (0), .str 5 232756689510, .int .i64 (0), .str 5 237051656806, .int .i64 (0), .str 5 241346624102, .int .i64 (0), .str 5 245641591398, .int .i64 (0)])]
def crH19b22 : List (Nat × Nat × List SV) := [(326, 9, [.str 1 103, .str 1 104]), (260, 115, [.str 4 811678310, .int .i64 (0), .str 4 828455526, .int .i64 (0), .str 4 845232742, .int .i64 (0), .str 4 862009958, .int .i64 (0), .str 4 878787174, .int .i64 (0), .str 4 895564390, .int .i64 (0), .str 4 912341606, .int .i64 (0), .str 4 929118822, .int .i64 (0), .str 4 945896038, .int .i64 (0), .str 4 962673254, .int .i64 (0), .str 5 206986885734, .int .i64 (0), .str 5 211281853030, .int .i64 (0), .str 5 215576820326, .int .i64 (0), .str 5 219871787622, .int .i64 (0), .str 5 224166754918, .int .i64 (0), .str 5 228461722214, .int .i64 (0), .str 5 232756689510, .int .i64 (0), .str 5 237051656806, .int .i64 (0), .str 5 241346624102, .int .i64 (0), .str 5 245641591398, .int .i64 (0)])]
def crH19b23 : List (Nat × Nat × List SV) := [(327, 9, [.str 1 103, .str 1 104]), (260, 115, [.str 4 811678310, .int .i64 (0), .str 4 828455526, .int .i64 (0), .str 4 845232742, .int .i64 (0), .str 4 862009958, .int .i64 (0), .str 4 878787174, .int .i64 (0), .str 4 895564390, .int .i64 (0), .str 4 912341606, .int .i64 (0), .str 4 929118822, .int .i64 (0), .str 4 945896038, .int .i64 (0), .str 4 962673254, .int .i64 (0), .str 5 206986885734, .int .i64 (0), .str 5 211281853030, .int .i64 (0), .str 5 215576820326, .int .i64 (0), .str 5 219871787622, .int .i64 (0), .str 5 224166754918, .int .i64 (0), .str 5 228461722214, .int .i64 (0), .str 5 232756689510, .int .i64 (0), .str 5 237051656806, .int .i64 (0), .str 5 241346624102, .int .i64 (0), .str 5 245641591398, .int .i64 (0)])]
def crH19b24 : List (Nat × Nat × List SV) := [(330, 49, [.nils, .nils])]
def crH19b25 : List (Nat × Nat × List SV) := [(334, 49, [.nils, .nils])]
def crH19b26 : List (Nat × Nat × List SV) := [(331, 49, [.nils, .nils])]
def crH19b27 : List (Nat × Nat × List SV) := [(335, 49, [.nils, .nils])]
def crH19b28 : List (Nat × Nat × List SV) := [(332, 49, [.nils, .nils])]
def crH19b29 : List (Nat × Nat × List SV) := [(336, 49, [.nils, .nils])]
def crH19b30 : List (Nat × Nat × List SV) := [(333, 49, [.nils, .nils])]
def crH19b31 : List (Nat × Nat × List SV) := [(337, 49, [.nils, .nils])]
def crH19b32 : List (Nat × Nat × List SV) := [(338, 49, [.nils, .nils])]
def crH19b33 : List (Nat × Nat × List SV) := [(339, 49, [.nils, .nils])]
def crH19b34 : List (Nat × Nat × List SV) := [(340, 49, [.nils, .nils])]
def crH19b35 : List (Nat × Nat × List SV) := [(341, 49, [.nils, .nils])]
def crH19b36 : List (Nat × Nat × List SV) := [(342, 49, [.nils, .nils])]
def crH19b37 : List (Nat × Nat × List SV) := [(343, 49, [.nils, .nils])]
def crH19b38 : List (Nat × Nat × List SV) := [(344, 49, [.nils, .nils])]
def crH19b39 : List (Nat × Nat × List SV) := [(345, 49, [.nils, .nils])]
def crH19b40 : List (Nat × Nat × List SV) := [(346, 49, [.nils, .nils])]
def crH19b41 : List (Nat × Nat × List SV) := [(347, 49, [.nils, .nils])]
def crH19b42 : List (Nat × Nat × List SV) := [(348, 49, [.nils, .nils])]
def crH19b43 : List (Nat × Nat × List SV) := [(349, 49, [.nils, .nils])]
def crH19b44 : List (Nat × Nat × List SV) := [(350, 49, [.nils, .nils])]
def crH19b45 : List (Nat × Nat × List SV) := [(351, 49, [.nils, .nils])]
def crH19b46 : List (Nat × Nat × List SV) := [(352, 49, [.nils, .nils])]
def crH19b47 : List (Nat × Nat × List SV) := [(353, 49, [.nils, .nils])]
def crH19b48 : List (Nat × Nat × List SV) := [(890, 49, [.nils, .nils])]
def crH19b49 : List (Nat × Nat × List SV) := [(897, 49, [.nils, .nils])]
def crH19b50 : List (Nat × Nat × List SV) := [(905, 49, [.nils, .nils])]
def crH19b51 : List (Nat × Nat × List SV) := [(914, 49, [.nils, .nils])]
def crH19b52 : List (Nat × Nat × List SV) := [(924, 49, [.nils, .nils])]
def crH19b53 : List (Nat × Nat × List SV) := [(935, 49, [.nils, .nils])]
def crH19b54 : List (Nat × Nat × List SV) := [(947, 49, [.nils, .nils])]
def crH19b55 : List (Nat × Nat × List SV) := [(960, 49, [.nils, .nils])]
def crH19b56 : List (Nat × Nat × List SV) := [(974, 49, [.nils, .nils])]
def crH19b57 : List (Nat × Nat × List SV) := [(989, 49, [.nils, .nils])]
def crH19b58 : List (Nat × Nat × List SV) := [(1005, 49, [.nils, .nils])]
def crH19b59 : List (Nat × Nat × List SV) := [(1022, 49, [.nils, .nils])]
def crH19b60 : List (Nat × Nat × List SV) := [(1040, 49, [.nils, .nils])]
def crH19b61 : List (Nat × Nat × List SV) := [(1059, 49, [.nils, .nils])]
def crH19b62 : List (Nat × Nat × List SV) := [(1079, 49, [.nils, .nils])]
def crH19b63 : List (Nat × Nat × List SV) := [(1100, 49, [.nils, .nils])]
def crH19b64 : List (Nat × Nat × List SV) := [(1122, 49, [.nils, .nils])]
def crH19b65 : List (Nat × Nat × List SV) := [(1145, 49, [.nils, .nils])]
def crH19b66 : List (Nat × Nat × List SV) := [(1169, 49, [.nils, .nils])]
def crH19b67 : List (Nat × Nat × List SV) := [(1194, 49, [.nils, .nils])]
def crH19b68 : List (Nat × Nat × List SV) := [(1220, 49, [.nils, .nils])]
def crH19b69 : List (Nat × Nat × List SV) := [(1225, 49, [.nils, .nils])]
def crH19b70 : List (Nat × Nat × List SV) := [(1753, 49, [.nils, .nils])]
def crH19b71 : List (Nat × Nat × List SV) := [(1762, 49, [.nils, .nils])]
def crH19b72 : List (Nat × Nat × List SV) := [(1772, 49, [.nils, .nils])]
def crH19b73 : List (Nat × Nat × List SV) := [(1783, 49, [.nils, .nils])]
def crH19b74 : List (Nat × Nat × List SV) := [(1795, 49, [.nils, .nils])]
def crH19b75 : List (Nat × Nat × List SV) := [(1808, 49, [.nils, .nils])]
def crH19b76 : List (Nat × Nat × List SV) := [(1822, 49, [.nils, .nils])]
def crH19b77 : List (Nat × Nat × List SV) := [(1837, 49, [.nils, .nils])]
def crH19b78 : List (Nat × Nat × List SV) := [(1853, 49, [.nils, .nils])]
def crH19b79 : List (Nat × Nat × List SV) := [(1870, 49, [.nils, .nils])]
def crH19b80 : List (Nat × Nat × List SV) := [(1888, 49, [.nils, .nils])]
def crH19b81 : List (Nat × Nat × List SV) := [(1907, 49, [.nils, .nils])]
def crH19b82 : List (Nat × Nat × List SV) := [(1927, 49, [.nils, .nils])]
def crH19b83 : List (Nat × Nat × List SV) := [(1948, 49, [.nils, .nils])]
def crH19b84 : List (Nat × Nat × List SV) := [(1970, 49, [.nils, .nils])]
def crH19b85 : List (Nat × Nat × List SV) := [(1993, 49, [.nils, .nils])]
def crH19b86 : List (Nat × Nat × List SV) := [(2017, 49, [.nils, .nils])]
def crH19b87 : List (Nat × Nat × List SV) := [(2042, 49, [.nils, .nils])]
def crH19b88 : List (Nat × Nat × List SV) := [(2068, 49, [.nils, .nils])]
def crH19b89 : List (Nat × Nat × List SV) := [(2095, 49, [.nils, .nils])]
def crH19b90 : List (Nat × Nat × List SV) := [(2107, 9, [.str 1 103])]
def crH19r0 : KRow := ⟨307, [.agg [.int .i64 (19), .str 0 0, .str 4 811678310, .int .i64 (0), .int .i64 (0), .str 0 0, .int .i64 (0), .int .i64 (0), .str 0 0, .int .i64 (0), .int .i64 (0), .int .i64 (0), .str 0 0, .str 0 0, .nils, .nils], .slo 179 0 2 1, .slo 260 0 20 2], crH19b0, .int .i64 (0), none⟩
def crH19r1 : KRow := ⟨307, [.ptr 111 0, .agg [.int .i64 (19), .str 0 0, .str 4 811678310, .int .i64 (0), .int .i64 (0), .str 0 0, .int .i64 (0), .int .i64 (0), .str 0 0, .int .i64 (0), .int .i64 (0), .int .i64 (0), .str 0 0, .str 0 0, .nils, .nils]], [], .bool true, none⟩
def crH19r2 : KRow := ⟨309, [.slc 308 0 2 2], crH19b1, .nils, none⟩
def crH19r3 : KRow := ⟨311, [.slo 173 0 20 1, .str 2 12404], crH19b2, .bool true, none⟩
def crH19r4 : KRow := ⟨313, [.slc 312 0 2 2], crH19b3, .nils, none⟩
def crH19r5 : KRow := ⟨315, [.agg [.int .i64 (1), .str 0 0, .str 1 103, .int .i64 (0), .int .i64 (0), .str 0 0, .int .i64 (0), .int .i64 (0), .str 0 0, .int .i64 (0), .int .i64 (0), .int .i64 (0), .str 0 0, .str 0 0, .nils, .nils], .slo 179 0 2 1, .slo 260 0 20 2], crH19b0, .int .i64 (0), none⟩
def crH19r6 : KRow := ⟨315, [.ptr 111 0, .agg [.int .i64 (1), .str 0 0, .str 1 103, .int .i64 (0), .int .i64 (0), .str 0 0, .int .i64 (0), .int .i64 (0), .str 0 0, .int .i64 (0), .int .i64 (0), .int .i64 (0), .str 0 0, .str 0 0, .nils, .nils]], [], .bool true, none⟩
def crH19r7 : KRow := ⟨311, [.agg [.int .i64 (19), .str 0 0, .str 4 828455526, .int .i64 (0), .int .i64 (0), .str 0 0, .int .i64 (0), .int .i64 (0), .str 0 0, .int .i64 (0), .int .i64 (0), .int .i64 (0), .str 0 0, .str 0 0, .nils, .nils], .slo 308 0 2 1, .slo 260 0 20 2], crH19b4, .int .i64 (0), none⟩
def crH19r8 : KRow := ⟨311, [.ptr 111 0, .agg [.int .i64 (19), .str 0 0, .str 4 828455526, .int .i64 (0), .int .i64 (0), .str 0 0, .int .i64 (0), .int .i64 (0), .str 0 0, .int .i64 (0), .int .i64 (0), .int .i64 (0), .str 0 0, .str 0 0, .nils, .nils]], [], .bool true, none⟩
def crH19r9 : KRow := ⟨312, [.agg [.int .i64 (19), .str 0 0, .str 4 845232742, .int .i64 (0), .int .i64 (0), .str 0 0, .int .i64 (0), .int .i64 (0), .str 0 0, .int .i64 (0), .int .i64 (0), .int .i64 (0), .str 0 0, .str 0 0, .nils, .nils], .slo 309 0 2 1, .slo 260 0 20 2], crH19b5, .int .i64 (0), none⟩
def crH19r10 : KRow := ⟨312, [.ptr 111 0, .agg [.int .i64 (19), .str 0 0, .str 4 845232742, .int .i64 (0), .int .i64 (0), .str 0 0, .int .i64 (0), .int .i64 (0), .str 0 0, .int .i64 (0), .int .i64 (0), .int .i64 (0), .str 0 0, .str 0 0, .nils, .nils]], [], .bool true, none⟩
def crH19r11 : KRow := ⟨313, [.agg [.int .i64 (19), .str 0 0, .str 4 862009958, .int .i64 (0), .int .i64 (0), .str 0 0, .int .i64 (0), .int .i64 (0), .str 0 0, .int .i64 (0), .int .i64 (0), .int .i64 (0), .str 0 0, .str 0 0, .nils, .nils], .slo 310 0 2 1, .slo 260 0 20 2], crH19b6, .int .i64 (0), none⟩
def crH19r12 : KRow := ⟨313, [.ptr 111 0, .agg [.int .i64 (19), .str 0 0, .str 4 862009958, .int .i64 (0), .int .i64 (0), .str 0 0, .int .i64 (0), .int .i64 (0), .str 0 0, .int .i64 (0), .int .i64 (0), .int .i64 (0), .str 0 0, .str 0 0, .nils, .nils]], [], .bool true, none⟩
def crH19r13 : KRow := ⟨314, [.agg [.int .i64 (19), .str 0 0, .str 4 878787174, .int .i64 (0), .int .i64 (0), .str 0 0, .int .i64 (0), .int .i64 (0), .str 0 0, .int .i64 (0), .int .i64 (0), .int .i64 (0), .str 0 0, .str 0 0, .nils, .nils], .slo 311 0 2 1, .slo 260 0 20 2], crH19b7, .int .i64 (0), none⟩
def crH19r14 : KRow := ⟨314, [.ptr 111 0, .agg [.int .i64 (19), .str 0 0, .str 4 878787174, .int .i64 (0), .int .i64 (0), .str 0 0, .int .i64 (0), .int .i64 (0), .str 0 0, .int .i64 (0), .int .i64 (0), .int .i64 (0), .str 0 0, .str 0 0, .nils, .nils]], [], .bool true, none⟩
def crH19r15 : KRow := ⟨315, [.agg [.int .i64 (19), .str 0 0, .str 4 895564390, .int .i64 (0), .int .i64 (0), .str 0 0, .int .i64 (0), .int .i64 (0), .str 0 0, .int .i64 (0), .int .i64 (0), .int .i64 (0), .str 0 0, .str 0 0, .nils, .nils], .slo 312 0 2 1, .slo 260 0 20 2], crH19b8, .int .i64 (0), none⟩
def crH19r16 : KRow := ⟨315, [.ptr 111 0, .agg [.int .i64 (19), .str 0 0, .str 4 895564390, .int .i64 (0), .int .i64 (0), .str 0 0, .int .i64 (0), .int .i64 (0), .str 0 0, .int .i64 (0), .int .i64 (0), .int .i64 (0), .str 0 0, .str 0 0, .nils, .nils]], [], .bool true, none⟩
def crH19r17 : KRow := ⟨316, [.agg [.int .i64 (19), .str 0 0, .str 4 912341606, .int .i64 (0), .int .i64 (0), .str 0 0, .int .i64 (0), .int .i64 (0), .str 0 0, .int .i64 (0), .int .i64 (0), .int .i64 (0), .str 0 0, .str 0 0, .nils, .nils], .slo 313 0 2 1, .slo 260 0 20 2], crH19b9, .int .i64 (0), none⟩
def crH19r18 : KRow := ⟨316, [.ptr 111 0, .agg [.int .i64 (19), .str 0 0, .str 4 912341606, .int .i64 (0), .int .i64 (0), .str 0 0, .int .i64 (0), .int .i64 (0), .str 0 0, .int .i64 (0), .int .i64 (0), .int .i64 (0), .str 0 0, .str 0 0, .nils, .nils]], [], .bool true, none⟩
def crH19r19 : KRow := ⟨317, [.agg [.int .i64 (19), .str 0 0, .str 4 929118822, .int .i64 (0), .int .i64 (0), .str 0 0, .int .i64 (0), .int .i64 (0), .str 0 0, .int .i64 (0), .int .i64 (0), .int .i64 (0), .str 0 0, .str 0 0, .nils, .nils], .slo 314 0 2 1, .slo 260 0 20 2], crH19b10, .int .i64 (0), none⟩
def crH19r20 : KRow := ⟨317, [.ptr 111 0, .agg [.int .i64 (19), .str 0 0, .str 4 929118822, .int .i64 (0), .int .i64 (0), .str 0 0, .int .i64 (0), .int .i64 (0), .str 0 0, .int .i64 (0), .int .i64 (0), .int .i64 (0), .str 0 0, .str 0 0, .nils, .nils]], [], .bool true, none⟩
def crH19r21 : KRow := ⟨318, [.agg [.int .i64 (19), .str 0 0, .str 4 945896038, .int .i64 (0), .int .i64 (0), .str 0 0, .int .i64 (0), .int .i64 (0), .str 0 0, .int .i64 (0), .int .i64 (0), .int .i64 (0), .str 0 0, .str 0 0, .nils, .nils], .slo 315 0 2 1, .slo 260 0 20 2], crH19b11, .int .i64 (0), none⟩
def crH19r22 : KRow := ⟨318, [.ptr 111 0, .agg [.int .i64 (19), .str 0 0, .str 4 945896038, .int .i64 (0), .int .i64 (0), .str 0 0, .int .i64 (0), .int .i64 (0), .str 0 0, .int .i64 (0), .int .i64 (0), .int .i64 (0), .str 0 0, .str 0 0, .nils, .nils]], [], .bool true, none⟩
def crH19r23 : KRow := ⟨319, [.agg [.int .i64 (19), .str 0 0, .str 4 962673254, .int .i64 (0), .int .i64 (0), .str 0 0, .int .i64 (0), .int .i64 (0), .str 0 0, .int .i64 (0), .int .i64 (0), .int .i64 (0), .str 0 0, .str 0 0, .nils, .nils], .slo 316 0 2 1, .slo 260 0 20 2], crH19b12, .int .i64 (0), none⟩
def crH19r24 : KRow := ⟨319, [.ptr 111 0, .agg [.int .i64 (19), .str 0 0, .str 4 962673254, .int .i64 (0), .int .i64 (0), .str 0 0, .int .i64 (0), .int .i64 (0), .str 0 0, .int .i64 (0), .int .i64 (0), .int .i64 (0), .str 0 0, .str 0 0, .nils, .nils]], [], .bool true, none⟩
def crH19r25 : KRow := ⟨320, [.agg [.int .i64 (19), .str 0 0, .str 5 206986885734, .int .i64 (0), .int .i64 (0), .str 0 0, .int .i64 (0), .int .i64 (0), .str 0 0, .int .i64 (0), .int .i64 (0), .int .i64 (0), .str 0 0, .str 0 0, .nils, .nils], .slo 317 0 2 1, .slo 260 0 20 2], crH19b13, .int .i64 (0), none⟩
def crH19r26 : KRow := ⟨320, [.ptr 111 0, .agg [.int .i64 (19), .str 0 0, .str 5 206986885734, .int .i64 (0), .int .i64 (0), .str 0 0, .int .i64 (0), .int .i64 (0), .str 0 0, .int .i64 (0), .int .i64 (0), .int .i64 (0), .str 0 0, .str 0 0, .nils, .nils]], [], .bool true, none⟩
def crH19r27 : KRow := ⟨321, [.agg [.int .i64 (19), .str 0 0, .str 5 211281853030, .int .i64 (0), .int .i64 (0), .str 0 0, .int .i64 (0), .int .i64 (0), .str 0 0, .int .i64 (0), .int .i64 (0), .int .i64 (0), .str 0 0, .str 0 0, .nils, .nils], .slo 318 0 2 1, .slo 260 0 20 2], crH19b14, .int .i64 (0), none⟩
def crH19r28 : KRow := ⟨321, [.ptr 111 0, .agg [.int .i64 (19), .str 0 0, .str 5 211281853030, .int .i64 (0), .int .i64 (0), .str 0 0, .int .i64 (0), .int .i64 (0), .str 0 0, .int .i64 (0), .int .i64 (0), .int .i64 (0), .str 0 0, .str 0 0, .nils, .nils]], [], .bool true, none⟩
def crH19r29 : KRow := ⟨322, [.agg [.int .i64 (19), .str 0 0, .str 5 215576820326, .int .i64 (0), .int .i64 (0), .str 0 0, .int .i64 (0), .int .i64 (0), .str 0 0, .int .i64 (0), .int .i64 (0), .int .i64 (0), .str 0 0, .str 0 0, .nils, .nils], .slo 319 0 2 1, .slo 260 0 20 2], crH19b15, .int .i64 (0), none⟩
def crH19r30 : KRow := ⟨322, [.ptr 111 0, .agg [.int .i64 (19), .str 0 0, .str 5 215576820326, .int .i64 (0), .int .i64 (0), .str 0 0, .int .i64 (0), .int .i64 (0), .str 0 0, .int .i64 (0), .int .i64 (0), .int .i64 (0), .str 0 0, .str 0 0, .nils, .nils]], [], .bool true, none⟩
def crH19r31 : KRow := ⟨323, [.agg [.int .i64 (19), .str 0 0, .str 5 219871787622, .int .i64 (0), .int .i64 (0), .str 0 0, .int .i64 (0), .int .i64 (0), .str 0 0, .int .i64 (0), .int .i64 (0), .int .i64 (0), .str 0 0, .str 0 0, .nils, .nils], .slo 320 0 2 1, .slo 260 0 20 2], crH19b16, .int .i64 (0), none⟩
def crH19r32 : KRow := ⟨323, [.ptr 111 0, .agg [.int .i64 (19), .str 0 0, .str 5 219871787622, .int .i64 (0), .int .i64 (0), .str 0 0, .int .i64 (0), .int .i64 (0), .str 0 0, .int .i64 (0), .int .i64 (0), .int .i64 (0), .str 0 0, .str 0 0, .nils, .nils]], [], .bool true, none⟩
def crH19r33 : KRow := ⟨324, [.agg [.int .i64 (19), .str 0 0, .str 5 224166754918, .int .i64 (0), .int .i64 (0), .str 0 0, .int .i64 (0), .int .i64 (0), .str 0 0, .int .i64 (0), .int .i64 (0), .int .i64 (0), .str 0 0, .str 0 0, .nils, .nils], .slo 321 0 2 1, .slo 260 0 20 2], crH19b17, .int .i64 (0), none⟩
def crH19r34 : KRow := ⟨324, [.ptr 111 0, .agg [.int .i64 (19), .str 0 0, .str 5 224166754918, .int .i64 (0), .int .i64 (0), .str 0 0, .int .i64 (0), .int .i64 (0), .str 0 0, .int .i64 (0), .int .i64 (0), .int .i64 (0), .str 0 0, .str 0 0, .nils, .nils]], [], .bool true, none⟩
def crH19r35 : KRow := ⟨325, [.agg [.int .i64 (19), .str 0 0, .str 5 228461722214, .int .i64 (0), .int .i64 (0), .str 0 0, .int .i64 (0), .int .i64 (0), .str 0 0, .int .i64 (0), .int .i64 (0), .int .i64 (0), .str 0 0, .str 0 0, .nils, .nils], .slo 322 0 2 1, .slo 260 0 20 2], crH19b18, .int .i64 (0), none⟩
def crH19r36 : KRow := ⟨325, [.ptr 111 0, .agg [.int .i64 (19), .str 0 0, .str 5 228461722214, .int .i64 (0), .int .i64 (0), .str 0 0, .int .i64 (0), .int .i64 (0), .str 0 0, .int .i64 (0), .int .i64 (0), .int .i64 (0), .str 0 0, .str 0 0, .nils, .nils]], [], .bool true, none⟩
def crH19r37 : KRow := ⟨326, [.agg [.int .i64 (19), .str 0 0, .str 5 232756689510, .int .i64 (0), .int .i64 (0), .str 0 0, .int .i64 (0), .int .i64 (0), .str 0 0, .int .i64 (0), .int .i64 (0), .int .i64 (0), .str 0 0, .str 0 0, .nils, .nils], .slo 323 0 2 1, .slo 260 0 20 2], crH19b19, .int .i64 (0), none⟩
def crH19r38 : KRow := ⟨326, [.ptr 111 0, .agg [.int .i64 (19), .str 0 0, .str 5 232756689510, .int .i64 (0), .int .i64 (0), .str 0 0, .int .i64 (0), .int .i64 (0), .str 0 0, .int .i64 (0), .int .i64 (0), .int .i64 (0), .str 0 0, .str 0 0, .nils, .nils]], [], .bool true, none⟩
def crH19r39 : KRow := ⟨327, [.agg [.int .i64 (19), .str 0 0, .str 5 237051656806, .int .i64 (0), .int .i64 (0), .str 0 0, .int .i64 (0), .int .i64 (0), .str 0 0, .int .i64 (0), .int .i64 (0), .int .i64 (0), .str 0 0, .str 0 0, .nils, .nils], .slo 324 0 2 1, .slo 260 0 20 2], crH19b20, .int .i64 (0), none⟩
def crH19r40 : KRow := ⟨327, [.ptr 111 0, .agg [.int .i64 (19), .str 0 0, .str 5 237051656806, .int .i64 (0), .int .i64 (0), .str 0 0, .int .i64 (0), .int .i64 (0), .str 0 0, .int .i64 (0), .int .i64 (0), .int .i64 (0), .str 0 0, .str 0 0, .nils, .nils]], [], .bool true, none⟩
def crH19r41 : KRow := ⟨328, [.agg [.int .i64 (19), .str 0 0, .str 5 241346624102, .int .i64 (0), .int .i64 (0), .str 0 0, .int .i64 (0), .int .i64 (0), .str 0 0, .int .i64 (0), .int .i64 (0), .int .i64 (0), .str 0 0, .str 0 0, .nils, .nils], .slo 325 0 2 1, .slo 260 0 20 2], crH19b21, .int .i64 (0), none⟩
def crH19r42 : KRow := ⟨328, [.ptr 111 0, .agg [.int .i64 (19), .str 0 0, .str 5 241346624102, .int .i64 (0), .int .i64 (0), .str 0 0, .int .i64 (0), .int .i64 (0), .str 0 0, .int .i64 (0), .int .i64 (0), .int .i64 (0), .str 0 0, .str 0 0, .nils, .nils]], [], .bool true, none⟩
def crH19r43 : KRow := ⟨329, [.agg [.int .i64 (19), .str 0 0, .str 5 245641591398, .int .i64 (0), .int .i64 (0), .str 0 0, .int .i64 (0), .int .i64 (0), .str 0 0, .int .i64 (0), .int .i64 (0), .int .i64 (0), .str 0 0, .str 0 0, .nils, .nils], .slo 326 0 2 1, .slo 260 0 20 2], crH19b22, .int .i64 (0), none⟩
def crH19r44 : KRow := ⟨329, [.ptr 111 0, .agg [.int .i64 (19), .str 0 0, .str 5 245641591398, .int .i64 (0), .int .i64 (0), .str 0 0, .int .i64 (0), .int .i64 (0), .str 0 0, .int .i64 (0), .int .i64 (0), .int .i64 (0), .str 0 0, .str 0 0, .nils, .nils]], [], .bool true, none⟩
def crH19r45 : KRow := ⟨330, [.agg [.int .i64 (19), .str 0 0, .str 4 811678310, .int .i64 (0), .int .i64 (0), .str 0 0, .int .i64 (0), .int .i64 (0), .str 0 0, .int .i64 (0), .int .i64 (0), .int .i64 (0), .str 0 0, .str 0 0, .nils, .nils], .slo 327 0 2 1, .slo 260 0 20 2], crH19b23, .int .i64 (0), none⟩
def crH19r46 : KRow := ⟨330, [.ptr 111 0, .agg [.int .i64 (19), .str 0 0, .str 4 811678310, .int .i64 (0), .int .i64 (0), .str 0 0, .int .i64 (0), .int .i64 (0), .str 0 0, .int .i64 (0), .int .i64 (0), .int .i64 (0), .str 0 0, .str 0 0, .nils, .nils]], [], .bool true, none⟩
def crH19r47 : KRow := ⟨331, [.slc 330 0 2 2], crH19b24, .nils, none⟩
def crH19r48 : KRow := ⟨333, [.slo 173 0 20 1, .str 2 12660], crH19b2, .bool true, none⟩
def crH19r49 : KRow := ⟨335, [.slc 334 0 2 2], crH19b25, .nils, none⟩
def crH19r50 : KRow := ⟨337, [.agg [.int .i64 (19), .str 0 0, .str 4 828455526, .int .i64 (0), .int .i64 (0), .str 0 0, .int .i64 (0), .int .i64 (0), .str 0 0, .int .i64 (0), .int .i64 (0), .int .i64 (0), .str 0 0, .str 0 0, .nils, .nils], .slo 179 0 2 1, .slo 260 0 20 2], crH19b0, .int .i64 (0), none⟩
def crH19r51 : KRow := ⟨337, [.ptr 111 0, .agg [.int .i64 (19), .str 0 0, .str 4 828455526, .int .i64 (0), .int .i64 (0), .str 0 0, .int .i64 (0), .int .i64 (0), .str 0 0, .int .i64 (0), .int .i64 (0), .int .i64 (0), .str 0 0, .str 0 0, .nils, .nils]], [], .bool true, none⟩
def crH19r52 : KRow := ⟨332, [.slc 331 0 2 2], crH19b26, .nils, none⟩
def crH19r53 : KRow := ⟨334, [.slo 173 0 20 1, .str 2 12916], crH19b2, .bool true, none⟩
def crH19r54 : KRow := ⟨336, [.slc 335 0 2 2], crH19b27, .nils, none⟩
def crH19r55 : KRow := ⟨338, [.agg [.int .i64 (19), .str 0 0, .str 4 845232742, .int .i64 (0), .int .i64 (0), .str 0 0, .int .i64 (0), .int .i64 (0), .str 0 0, .int .i64 (0), .int .i64 (0), .int .i64 (0), .str 0 0, .str 0 0, .nils, .nils], .slo 179 0 2 1, .slo 260 0 20 2], crH19b0, .int .i64 (0), none⟩
def crH19r56 : KRow := ⟨338, [.ptr 111 0, .agg [.int .i64 (19), .str 0 0, .str 4 845232742, .int .i64 (0), .int .i64 (0), .str 0 0, .int .i64 (0), .int .i64 (0), .str 0 0, .int .i64 (0), .int .i64 (0), .int .i64 (0), .str 0 0, .str 0 0, .nils, .nils]], [], .bool true, none⟩
def crH19r57 : KRow := ⟨333, [.slc 332 0 2 2], crH19b28, .nils, none⟩
def crH19r58 : KRow := ⟨335, [.slo 173 0 20 1, .str 2 13172], crH19b2, .bool true, none⟩
def crH19r59 : KRow := ⟨337, [.slc 336 0 2 2], crH19b29, .nils, none⟩
def crH19r60 : KRow := ⟨339, [.agg [.int .i64 (19), .str 0 0, .str 4 862009958, .int .i64 (0), .int .i64 (0), .str 0 0, .int .i64 (0), .int .i64 (0), .str 0 0, .int .i64 (0), .int .i64 (0), .int .i64 (0), .str 0 0, .str 0 0, .nils, .nils], .slo 179 0 2 1, .slo 260 0 20 2], crH19b0, .int .i64 (0), none⟩
def crH19r61 : KRow := ⟨339, [.ptr 111 0, .agg [.int .i64 (19), .str 0 0, .str 4 862009958, .int .i64 (0), .int .i64 (0), .str 0 0, .int .i64 (0), .int .i64 (0), .str 0 0, .int .i64 (0), .int .i64 (0), .int .i64 (0), .str 0 0, .str 0 0, .nils, .nils]], [], .bool true, none⟩
def crH19r62 : KRow := ⟨334, [.slc 333 0 2 2], crH19b30, .nils, none⟩
def crH19r63 : KRow := ⟨336, [.slo 173 0 20 1, .str 2 13428], crH19b2, .bool true, none⟩
def crH19r64 : KRow := ⟨338, [.slc 337 0 2 2], crH19b31, .nils, none⟩
def crH19r65 : KRow := ⟨340, [.agg [.int .i64 (19), .str 0 0, .str 4 878787174, .int .i64 (0), .int .i64 (0), .str 0 0, .int .i64 (0), .int .i64 (0), .str 0 0, .int .i64 (0), .int .i64 (0), .int .i64 (0), .str 0 0, .str 0 0, .nils, .nils], .slo 179 0 2 1, .slo 260 0 20 2], crH19b0, .int .i64 (0), none⟩
def crH19r66 : KRow := ⟨340, [.ptr 111 0, .agg [.int .i64 (19), .str 0 0, .str 4 878787174, .int .i64 (0), .int .i64 (0), .str 0 0, .int .i64 (0), .int .i64 (0), .str 0 0, .int .i64 (0), .int .i64 (0), .int .i64 (0), .str 0 0, .str 0 0, .nils, .nils]], [], .bool true, none⟩
def crH19r67 : KRow := ⟨335, [.slc 334 0 2 2], crH19b25, .nils, none⟩
def crH19r68 : KRow := ⟨337, [.slo 173 0 20 1, .str 2 13684], crH19b2, .bool true, none⟩
def crH19r69 : KRow := ⟨339, [.slc 338 0 2 2], crH19b32, .nils, none⟩
def crH19r70 : KRow := ⟨341, [.agg [.int .i64 (19), .str 0 0, .str 4 895564390, .int .i64 (0), .int .i64 (0), .str 0 0, .int .i64 (0), .int .i64 (0), .str 0 0, .int .i64 (0), .int .i64 (0), .int .i64 (0), .str 0 0, .str 0 0, .nils, .nils], .slo 179 0 2 1, .slo 260 0 20 2], crH19b0, .int .i64 (0), none⟩
def crH19r71 : KRow := ⟨341, [.ptr 111 0, .agg [.int .i64 (19), .str 0 0, .str 4 895564390, .int .i64 (0), .int .i64 (0), .str 0 0, .int .i64 (0), .int .i64 (0), .str 0 0, .int .i64 (0), .int .i64 (0), .int .i64 (0), .str 0 0, .str 0 0, .nils, .nils]], [], .bool true, none⟩
def crH19r72 : KRow := ⟨336, [.slc 335 0 2 2], crH19b27, .nils, none⟩
def crH19r73 : KRow := ⟨338, [.slo 173 0 20 1, .str 2 13940], crH19b2, .bool true, none⟩
def crH19r74 : KRow := ⟨340, [.slc 339 0 2 2], crH19b33, .nils, none⟩
def crH19r75 : KRow := ⟨342, [.agg [.int .i64 (19), .str 0 0, .str 4 912341606, .int .i64 (0), .int .i64 (0), .str 0 0, .int .i64 (0), .int .i64 (0), .str 0 0, .int .i64 (0), .int .i64 (0), .int .i64 (0), .str 0 0, .str 0 0, .nils, .nils], .slo 179 0 2 1, .slo 260 0 20 2], crH19b0, .int .i64 (0), none⟩
def crH19r76 : KRow := ⟨342, [.ptr 111 0, .agg [.int .i64 (19), .str 0 0, .str 4 912341606, .int .i64 (0), .int .i64 (0), .str 0 0, .int .i64 (0), .int .i64 (0), .str 0 0, .int .i64 (0), .int .i64 (0), .int .i64 (0), .str 0 0, .str 0 0, .nils, .nils]], [], .bool true, none⟩
def crH19r77 : KRow := ⟨337, [.slc 336 0 2 2], crH19b29, .nils, none⟩
def crH19r78 : KRow := ⟨339, [.slo 173 0 20 1, .str 2 14196], crH19b2, .bool true, none⟩
def crH19r79 : KRow := ⟨341, [.slc 340 0 2 2], crH19b34, .nils, none⟩
def crH19r80 : KRow := ⟨343, [.agg [.int .i64 (19), .str 0 0, .str 4 929118822, .int .i64 (0), .int .i64 (0), .str 0 0, .int .i64 (0), .int .i64 (0), .str 0 0, .int .i64 (0), .int .i64 (0), .int .i64 (0), .str 0 0, .str 0 0, .nils, .nils], .slo 179 0 2 1, .slo 260 0 20 2], crH19b0, .int .i64 (0), none⟩
def crH19r81 : KRow := ⟨343, [.ptr 111 0, .agg [.int .i64 (19), .str 0 0, .str 4 929118822, .int .i64 (0), .int .i64 (0), .str 0 0, .int .i64 (0), .int .i64 (0), .str 0 0, .int .i64 (0), .int .i64 (0), .int .i64 (0), .str 0 0, .str 0 0, .nils, .nils]], [], .bool true, none⟩
def crH19r82 : KRow := ⟨338, [.slc 337 0 2 2], crH19b31, .nils, none⟩
def crH19r83 : KRow := ⟨340, [.slo 173 0 20 1, .str 2 14452], crH19b2, .bool true, none⟩
def crH19r84 : KRow := ⟨342, [.slc 341 0 2 2], crH19b35, .nils, none⟩
def crH19r85 : KRow := ⟨344, [.agg [.int .i64 (19), .str 0 0, .str 4 945896038, .int .i64 (0), .int .i64 (0), .str 0 0, .int .i64 (0), .int .i64 (0), .str 0 0, .int .i64 (0), .int .i64 (0), .int .i64 (0), .str 0 0, .str 0 0, .nils, .nils], .slo 179 0 2 1, .slo 260 0 20 2], crH19b0, .int .i64 (0), none⟩
def crH19r86 : KRow := ⟨344, [.ptr 111 0, .agg [.int .i64 (19), .str 0 0, .str 4 945896038, .int .i64 (0), .int .i64 (0), .str 0 0, .int .i64 (0), .int .i64 (0), .str 0 0, .int .i64 (0), .int .i64 (0), .int .i64 (0), .str 0 0, .str 0 0, .nils, .nils]], [], .bool true, none⟩
def crH19r87 : KRow := ⟨339, [.slc 338 0 2 2], crH19b32, .nils, none⟩
def crH19r88 : KRow := ⟨341, [.slo 173 0 20 1, .str 2 14708], crH19b2, .bool true, none⟩
def crH19r89 : KRow := ⟨343, [.slc 342 0 2 2], crH19b36, .nils, none⟩
def crH19r90 : KRow := ⟨345, [.agg [.int .i64 (19), .str 0 0, .str 4 962673254, .int .i64 (0), .int .i64 (0), .str 0 0, .int .i64 (0), .int .i64 (0), .str 0 0, .int .i64 (0), .int .i64 (0), .int .i64 (0), .str 0 0, .str 0 0, .nils, .nils], .slo 179 0 2 1, .slo 260 0 20 2], crH19b0, .int .i64 (0), none⟩
def crH19r91 : KRow := ⟨345, [.ptr 111 0, .agg [.int .i64 (19), .str 0 0, .str 4 962673254, .int .i64 (0), .int .i64 (0), .str 0 0, .int .i64 (0), .int .i64 (0), .str 0 0, .int .i64 (0), .int .i64 (0), .int .i64 (0), .str 0 0, .str 0 0, .nils, .nils]], [], .bool true, none⟩
def crH19r92 : KRow := ⟨340, [.slc 339 0 2 2], crH19b33, .nils, none⟩
def crH19r93 : KRow := ⟨342, [.slo 173 0 20 1, .str 3 3158388], crH19b2, .bool true, none⟩
def crH19r94 : KRow := ⟨344, [.slc 343 0 2 2], crH19b37, .nils, none⟩
def crH19r95 : KRow := ⟨346, [.agg [.int .i64 (19), .str 0 0, .str 5 206986885734, .int .i64 (0), .int .i64 (0), .str 0 0, .int .i64 (0), .int .i64 (0), .str 0 0, .int .i64 (0), .int .i64 (0), .int .i64 (0), .str 0 0, .str 0 0, .nils, .nils], .slo 179 0 2 1, .slo 260 0 20 2], crH19b0, .int .i64 (0), none⟩
def crH19r96 : KRow := ⟨346, [.ptr 111 0, .agg [.int .i64 (19), .str 0 0, .str 5 206986885734, .int .i64 (0), .int .i64 (0), .str 0 0, .int .i64 (0), .int .i64 (0), .str 0 0, .int .i64 (0), .int .i64 (0), .int .i64 (0), .str 0 0, .str 0 0, .nils, .nils]], [], .bool true, none⟩
def crH19r97 : KRow := ⟨341, [.slc 340 0 2 2], crH19b34, .nils, none⟩
def crH19r98 : KRow := ⟨343, [.slo 173 0 20 1, .str 3 3223924], crH19b2, .bool true, none⟩
def crH19r99 : KRow := ⟨345, [.slc 344 0 2 2], crH19b38, .nils, none⟩
def crH19r100 : KRow := ⟨347, [.agg [.int .i64 (19), .str 0 0, .str 5 211281853030, .int .i64 (0), .int .i64 (0), .str 0 0, .int .i64 (0), .int .i64 (0), .str 0 0, .int .i64 (0), .int .i64 (0), .int .i64 (0), .str 0 0, .str 0 0, .nils, .nils], .slo 179 0 2 1, .slo 260 0 20 2], crH19b0, .int .i64 (0), none⟩
def crH19r101 : KRow := ⟨347, [.ptr 111 0, .agg [.int .i64 (19), .str 0 0, .str 5 211281853030, .int .i64 (0), .int .i64 (0), .str 0 0, .int .i64 (0), .int .i64 (0), .str 0 0, .int .i64 (0), .int .i64 (0), .int .i64 (0), .str 0 0, .str 0 0, .nils, .nils]], [], .bool true, none⟩
def crH19r102 : KRow := ⟨342, [.slc 341 0 2 2], crH19b35, .nils, none⟩
def crH19r103 : KRow := ⟨344, [.slo 173 0 20 1, .str 3 3289460], crH19b2, .bool true, none⟩
def crH19r104 : KRow := ⟨346, [.slc 345 0 2 2], crH19b39, .nils, none⟩
def crH19r105 : KRow := ⟨348, [.agg [.int .i64 (19), .str 0 0, .str 5 215576820326, .int .i64 (0), .int .i64 (0), .str 0 0, .int .i64 (0), .int .i64 (0), .str 0 0, .int .i64 (0), .int .i64 (0), .int .i64 (0), .str 0 0, .str 0 0, .nils, .nils], .slo 179 0 2 1, .slo 260 0 20 2], crH19b0, .int .i64 (0), none⟩
def crH19r106 : KRow := ⟨348, [.ptr 111 0, .agg [.int .i64 (19), .str 0 0, .str 5 215576820326, .int .i64 (0), .int .i64 (0), .str 0 0, .int .i64 (0), .int .i64 (0), .str 0 0, .int .i64 (0), .int .i64 (0), .int .i64 (0), .str 0 0, .str 0 0, .nils, .nils]], [], .bool true, none⟩
def crH19r107 : KRow := ⟨343, [.slc 342 0 2 2], crH19b36, .nils, none⟩
def crH19r108 : KRow := ⟨345, [.slo 173 0 20 1, .str 3 3354996], crH19b2, .bool true, none⟩
def crH19r109 : KRow := ⟨347, [.slc 346 0 2 2], crH19b40, .nils, none⟩
def crH19r110 : KRow := ⟨349, [.agg [.int .i64 (19), .str 0 0, .str 5 219871787622, .int .i64 (0), .int .i64 (0), .str 0 0, .int .i64 (0), .int .i64 (0), .str 0 0, .int .i64 (0), .int .i64 (0), .int .i64 (0), .str 0 0, .str 0 0, .nils, .nils], .slo 179 0 2 1, .slo 260 0 20 2], crH19b0, .int .i64 (0), none⟩
def crH19r111 : KRow := ⟨349, [.ptr 111 0, .agg [.int .i64 (19), .str 0 0, .str 5 219871787622, .int .i64 (0), .int .i64 (0), .str 0 0, .int .i64 (0), .int .i64 (0), .str 0 0, .int .i64 (0), .int .i64 (0), .int .i64 (0), .str 0 0, .str 0 0, .nils, .nils]], [], .bool true, none⟩
def crH19r112 : KRow := ⟨344, [.slc 343 0 2 2], crH19b37, .nils, none⟩
def crH19r113 : KRow := ⟨346, [.slo 173 0 20 1, .str 3 3420532], crH19b2, .bool true, none⟩
def crH19r114 : KRow := ⟨348, [.slc 347 0 2 2], crH19b41, .nils, none⟩
def crH19r115 : KRow := ⟨350, [.agg [.int .i64 (19), .str 0 0, .str 5 224166754918, .int .i64 (0), .int .i64 (0), .str 0 0, .int .i64 (0), .int .i64 (0), .str 0 0, .int .i64 (0), .int .i64 (0), .int .i64 (0), .str 0 0, .str 0 0, .nils, .nils], .slo 179 0 2 1, .slo 260 0 20 2], crH19b0, .int .i64 (0), none⟩
def crH19r116 : KRow := ⟨350, [.ptr 111 0, .agg [.int .i64 (19), .str 0 0, .str 5 224166754918, .int .i64 (0), .int .i64 (0), .str 0 0, .int .i64 (0), .int .i64 (0), .str 0 0, .int .i64 (0), .int .i64 (0), .int .i64 (0), .str 0 0, .str 0 0, .nils, .nils]], [], .bool true, none⟩
def crH19r117 : KRow := ⟨345, [.slc 344 0 2 2], crH19b38, .nils, none⟩
def crH19r118 : KRow := ⟨347, [.slo 173 0 20 1, .str 3 3486068], crH19b2, .bool true, none⟩
def crH19r119 : KRow := ⟨349, [.slc 348 0 2 2], crH19b42, .nils, none⟩
def crH19r120 : KRow := ⟨351, [.agg [.int .i64 (19), .str 0 0, .str 5 228461722214, .int .i64 (0), .int .i64 (0), .str 0 0, .int .i64 (0), .int .i64 (0), .str 0 0, .int .i64 (0), .int .i64 (0), .int .i64 (0), .str 0 0, .str 0 0, .nils, .nils], .slo 179 0 2 1, .slo 260 0 20 2], crH19b0, .int .i64 (0), none⟩
def crH19r121 : KRow := ⟨351, [.ptr 111 0, .agg [.int .i64 (19), .str 0 0, .str 5 228461722214, .int .i64 (0), .int .i64 (0), .str 0 0, .int .i64 (0), .int .i64 (0), .str 0 0, .int .i64 (0), .int .i64 (0), .int .i64 (0), .str 0 0, .str 0 0, .nils, .nils]], [], .bool true, none⟩
def crH19r122 : KRow := ⟨346, [.slc 345 0 2 2], crH19b39, .nils, none⟩
def crH19r123 : KRow := ⟨348, [.slo 173 0 20 1, .str 3 3551604], crH19b2, .bool true, none⟩
def crH19r124 : KRow := ⟨350, [.slc 349 0 2 2], crH19b43, .nils, none⟩
def crH19r125 : KRow := ⟨352, [.agg [.int .i64 (19), .str 0 0, .str 5 232756689510, .int .i64 (0), .int .i64 (0), .str 0 0, .int .i64 (0), .int .i64 (0), .str 0 0, .int .i64 (0), .int .i64 (0), .int .i64 (0), .str 0 0, .str 0 0, .nils, .nils], .slo 179 0 2 1, .slo 260 0 20 2], crH19b0, .int .i64 (0), none⟩
def crH19r126 : KRow := ⟨352, [.ptr 111 0, .agg [.int .i64 (19), .str 0 0, .str 5 232756689510, .int .i64 (0), .int .i64 (0), .str 0 0, .int .i64 (0), .int .i64 (0), .str 0 0, .int .i64 (0), .int .i64 (0), .int .i64 (0), .str 0 0, .str 0 0, .nils, .nils]], [], .bool true, none⟩
def crH19r127 : KRow := ⟨347, [.slc 346 0 2 2], crH19b40, .nils, none⟩
def crH19r128 : KRow := ⟨349, [.slo 173 0 20 1, .str 3 3617140], crH19b2, .bool true, none⟩
def crH19r129 : KRow := ⟨351, [.slc 350 0 2 2], crH19b44, .nils, none⟩
def crH19r130 : KRow := ⟨353, [.agg [.int .i64 (19), .str 0 0, .str 5 237051656806, .int .i64 (0), .int .i64 (0), .str 0 0, .int .i64 (0), .int .i64 (0), .str 0 0, .int .i64 (0), .int .i64 (0), .int .i64 (0), .str 0 0, .str 0 0, .nils, .nils], .slo 179 0 2 1, .slo 260 0 20 2], crH19b0, .int .i64 (0), none⟩
def crH19r131 : KRow := ⟨353, [.ptr 111 0, .agg [.int .i64 (19), .str 0 0, .str 5 237051656806, .int .i64 (0), .int .i64 (0), .str 0 0, .int .i64 (0), .int .i64 (0), .str 0 0, .int .i64 (0), .int .i64 (0), .int .i64 (0), .str 0 0, .str 0 0, .nils, .nils]], [], .bool true, none⟩
def crH19r132 : KRow := ⟨348, [.slc 347 0 2 2], crH19b41, .nils, none⟩
def crH19r133 : KRow := ⟨350, [.slo 173 0 20 1, .str 3 3682676], crH19b2, .bool true, none⟩
def crH19r134 : KRow := ⟨352, [.slc 351 0 2 2], crH19b45, .nils, none⟩
def crH19r135 : KRow := ⟨354, [.agg [.int .i64 (19), .str 0 0, .str 5 241346624102, .int .i64 (0), .int .i64 (0), .str 0 0, .int .i64 (0), .int .i64 (0), .str 0 0, .int .i64 (0), .int .i64 (0), .int .i64 (0), .str 0 0, .str 0 0, .nils, .nils], .slo 179 0 2 1, .slo 260 0 20 2], crH19b0, .int .i64 (0), none⟩
def crH19r136 : KRow := ⟨354, [.ptr 111 0, .agg [.int .i64 (19), .str 0 0, .str 5 241346624102, .int .i64 (0), .int .i64 (0), .str 0 0, .int .i64 (0), .int .i64 (0), .str 0 0, .int .i64 (0), .int .i64 (0), .int .i64 (0), .str 0 0, .str 0 0, .nils, .nils]], [], .bool true, none⟩
def crH19r137 : KRow := ⟨349, [.slc 348 0 2 2], crH19b42, .nils, none⟩
def crH19r138 : KRow := ⟨351, [.slo 173 0 20 1, .str 3 3748212], crH19b2, .bool true, none⟩
def crH19r139 : KRow := ⟨353, [.slc 352 0 2 2], crH19b46, .nils, none⟩
def crH19r140 : KRow := ⟨355, [.agg [.int .i64 (19), .str 0 0, .str 5 245641591398, .int .i64 (0), .int .i64 (0), .str 0 0, .int .i64 (0), .int .i64 (0), .str 0 0, .int .i64 (0), .int .i64 (0), .int .i64 (0), .str 0 0, .str 0 0, .nils, .nils], .slo 179 0 2 1, .slo 260 0 20 2], crH19b0, .int .i64 (0), none⟩
def crH19r141 : KRow := ⟨355, [.ptr 111 0, .agg [.int .i64 (19), .str 0 0, .str 5 245641591398, .int .i64 (0), .int .i64 (0), .str 0 0, .int .i64 (0), .int .i64 (0), .str 0 0, .int .i64 (0), .int .i64 (0), .int .i64 (0), .str 0 0, .str 0 0, .nils, .nils]], [], .bool true, none⟩
def crH19r142 : KRow := ⟨350, [.slc 349 0 2 2], crH19b43, .nils, none⟩
def crH19r143 : KRow := ⟨352, [.slo 173 0 20 1, .str 2 12404], crH19b2, .bool true, none⟩
def crH19r144 : KRow := ⟨354, [.slc 353 0 2 2], crH19b47, .nils, none⟩
def crH19r145 : KRow := ⟨356, [.agg [.int .i64 (19), .str 0 0, .str 4 811678310, .int .i64 (0), .int .i64 (0), .str 0 0, .int .i64 (0), .int .i64 (0), .str 0 0, .int .i64 (0), .int .i64 (0), .int .i64 (0), .str 0 0, .str 0 0, .nils, .nils], .slo 179 0 2 1, .slo 260 0 20 2], crH19b0, .int .i64 (0), none⟩
def crH19r146 : KRow := ⟨356, [.ptr 111 0, .agg [.int .i64 (19), .str 0 0, .str 4 811678310, .int .i64 (0), .int .i64 (0), .str 0 0, .int .i64 (0), .int .i64 (0), .str 0 0, .int .i64 (0), .int .i64 (0), .int .i64 (0), .str 0 0, .str 0 0, .nils, .nils]], [], .bool true, none⟩
def crH19r147 : KRow := ⟨879, [.nils, .str 1 103], [], .bool false, none⟩
def crH19r148 : KRow := ⟨891, [.slc 890 0 2 2], crH19b48, .nils, none⟩
def crH19r149 : KRow := ⟨898, [.slc 897 0 2 2], crH19b49, .nils, none⟩
def crH19r150 : KRow := ⟨906, [.slc 905 0 2 2], crH19b50, .nils, none⟩
def crH19r151 : KRow := ⟨915, [.slc 914 0 2 2], crH19b51, .nils, none⟩
def crH19r152 : KRow := ⟨925, [.slc 924 0 2 2], crH19b52, .nils, none⟩
def crH19r153 : KRow := ⟨936, [.slc 935 0 2 2], crH19b53, .nils, none⟩
def crH19r154 : KRow := ⟨948, [.slc 947 0 2 2], crH19b54, .nils, none⟩
def crH19r155 : KRow := ⟨961, [.slc 960 0 2 2], crH19b55, .nils, none⟩
def crH19r156 : KRow := ⟨975, [.slc 974 0 2 2], crH19b56, .nils, none⟩
def crH19r157 : KRow := ⟨990, [.slc 989 0 2 2], crH19b57, .nils, none⟩
def crH19r158 : KRow := ⟨1006, [.slc 1005 0 2 2], crH19b58, .nils, none⟩
def crH19r159 : KRow := ⟨1023, [.slc 1022 0 2 2], crH19b59, .nils, none⟩
def crH19r160 : KRow := ⟨1041, [.slc 1040 0 2 2], crH19b60, .nils, none⟩
def crH19r161 : KRow := ⟨1060, [.slc 1059 0 2 2], crH19b61, .nils, none⟩
def crH19r162 : KRow := ⟨1080, [.slc 1079 0 2 2], crH19b62, .nils, none⟩
def crH19r163 : KRow := ⟨1101, [.slc 1100 0 2 2], crH19b63, .nils, none⟩
def crH19r164 : KRow := ⟨1123, [.slc 1122 0 2 2], crH19b64, .nils, none⟩
def crH19r165 : KRow := ⟨1146, [.slc 1145 0 2 2], crH19b65, .nils, none⟩
def crH19r166 : KRow := ⟨1170, [.slc 1169 0 2 2], crH19b66, .nils, none⟩
def crH19r167 : KRow := ⟨1195, [.slc 1194 0 2 2], crH19b67, .nils, none⟩
def crH19r168 : KRow := ⟨1221, [.slc 1220 0 2 2], crH19b68, .nils, none⟩
def crH19r169 : KRow := ⟨1226, [.slc 1225 0 2 2], crH19b69, .nils, none⟩
def crH19r170 : KRow := ⟨1754, [.slc 1753 0 2 2], crH19b70, .nils, none⟩
def crH19r171 : KRow := ⟨1763, [.slc 1762 0 2 2], crH19b71, .nils, none⟩
def crH19r172 : KRow := ⟨1773, [.slc 1772 0 2 2], crH19b72, .nils, none⟩
def crH19r173 : KRow := ⟨1784, [.slc 1783 0 2 2], crH19b73, .nils, none⟩
def crH19r174 : KRow := ⟨1796, [.slc 1795 0 2 2], crH19b74, .nils, none⟩
def crH19r175 : KRow := ⟨1809, [.slc 1808 0 2 2], crH19b75, .nils, none⟩
def crH19r176 : KRow := ⟨1823, [.slc 1822 0 2 2], crH19b76, .nils, none⟩
def crH19r177 : KRow := ⟨1838, [.slc 1837 0 2 2], crH19b77, .nils, none⟩
def crH19r178 : KRow := ⟨1854, [.slc 1853 0 2 2], crH19b78, .nils, none⟩
def crH19r179 : KRow := ⟨1871, [.slc 1870 0 2 2], crH19b79, .nils, none⟩
def crH19r180 : KRow := ⟨1889, [.slc 1888 0 2 2], crH19b80, .nils, none⟩
def crH19r181 : KRow := ⟨1908, [.slc 1907 0 2 2], crH19b81, .nils, none⟩
def crH19r182 : KRow := ⟨1928, [.slc 1927 0 2 2], crH19b82, .nils, none⟩
def crH19r183 : KRow := ⟨1949, [.slc 1948 0 2 2], crH19b83, .nils, none⟩
def crH19r184 : KRow := ⟨1971, [.slc 1970 0 2 2], crH19b84, .nils, none⟩
def crH19r185 : KRow := ⟨1994, [.slc 1993 0 2 2], crH19b85, .nils, none⟩
def crH19r186 : KRow := ⟨2018, [.slc 2017 0 2 2], crH19b86, .nils, none⟩
def crH19r187 : KRow := ⟨2043, [.slc 2042 0 2 2], crH19b87, .nils, none⟩
def crH19r188 : KRow := ⟨2069, [.slc 2068 0 2 2], crH19b88, .nils, none⟩
def crH19r189 : KRow := ⟨2096, [.slc 2095 0 2 2], crH19b89, .nils, none⟩
def crH19r190 : KRow := ⟨2105, [.nils, .str 1 103], [], .bool false, none⟩
def crH19r191 : KRow := ⟨2114, [.slo 2107 0 1 1, .str 1 104], crH19b90, .bool false, none⟩
def crZ19 (f : Nat) : Option XK := cond (Nat.beq f 15) (some (.known [crH19r3, crH19r48, crH19r53, crH19r58, crH19r63, crH19r68, crH19r73, crH19r78, crH19r83, crH19r88, crH19r93, crH19r98, crH19r103, crH19r108, crH19r113, crH19r118, crH19r123, crH19r128, crH19r133, crH19r138, crH19r143, crH19r147, crH19r190, crH19r191])) (cond (Nat.beq f 70) (some (.known [crH19r0, crH19r5, crH19r7, crH19r9, crH19r11, crH19r13, crH19r15, crH19r17, crH19r19, crH19r21, crH19r23, crH19r25, crH19r27, crH19r29, crH19r31, crH19r33, crH19r35, crH19r37, crH19r39, crH19r41, crH19r43, crH19r45, crH19r50, crH19r55, crH19r60, crH19r65, crH19r70, crH19r75, crH19r80, crH19r85, crH19r90, crH19r95, crH19r100, crH19r105, crH19r110, crH19r115, crH19r120, crH19r125, crH19r130, crH19r135, crH19r140, crH19r145])) (cond (Nat.beq f 71) (some (.known [crH19r1, crH19r6, crH19r8, crH19r10, crH19r12, crH19r14, crH19r16, crH19r18, crH19r20, crH19r22, crH19r24, crH19r26, crH19r28, crH19r30, crH19r32, crH19r34, crH19r36, crH19r38, crH19r40, crH19r42, crH19r44, crH19r46, crH19r51, crH19r56, crH19r61, crH19r66, crH19r71, crH19r76, crH19r81, crH19r86, crH19r91, crH19r96, crH19r101, crH19r106, crH19r111, crH19r116, crH19r121, crH19r126, crH19r131, crH19r136, crH19r141, crH19r146])) (cond (Nat.beq f 85) (some (.known [crH19r2, crH19r4, crH19r47, crH19r49, crH19r52, crH19r54, crH19r57, crH19r59, crH19r62, crH19r64, crH19r67, crH19r69, crH19r72, crH19r74, crH19r77, crH19r79, crH19r82, crH19r84, crH19r87, crH19r89, crH19r92, crH19r94, crH19r97, crH19r99, crH19r102, crH19r104, crH19r107, crH19r109, crH19r112, crH19r114, crH19r117, crH19r119, crH19r122, crH19r124, crH19r127, crH19r129, crH19r132, crH19r134, crH19r137, crH19r139, crH19r142, crH19r144, crH19r148, crH19r149, crH19r150, crH19r151, crH19r152, crH19r153, crH19r154, crH19r155, crH19r156, crH19r157, crH19r158, crH19r159, crH19r160, crH19r161, crH19r162, crH19r163, crH19r164, crH19r165, crH19r166, crH19r167, crH19r168, crH19r169, crH19r170, crH19r171, crH19r172, crH19r173, crH19r174, crH19r175, crH19r176, crH19r177, crH19r178, crH19r179, crH19r180, crH19r181, crH19r182, crH19r183, crH19r184, crH19r185, crH19r186, crH19r187, crH19r188, crH19r189])) (crY f))))
noncomputable def crH19run (f : Nat) (r : KRow) : Bool := (ev crE crY Tryz.prog 1001).f.f f r.args ⟨crHp (crHp .e crBs) r.bs, r.nx, big⟩ (rowEnd r) (fun _ _ => false)
theorem crH19r0_run : crH19run 70 crH19r0 = true := by kernel_rfl
theorem crH19r1_run : crH19run 71 crH19r1 = true := by kernel_rfl
theorem crH19r2_run : crH19run 85 crH19r2 = true := by kernel_rfl
theorem crH19r3_run : crH19run 15 crH19r3 = true := by kernel_rfl
theorem crH19r4_run : crH19run 85 crH19r4 = true := by kernel_rfl
theorem crH19r5_run : crH19run 70 crH19r5 = true := by kernel_rfl
theorem crH19r6_run : crH19run 71 crH19r6 = true := by kernel_rfl
theorem crH19r7_run : crH19run 70 crH19r7 = true := by kernel_rfl
theorem crH19r8_run : crH19run 71 crH19r8 = true := by kernel_rfl
theorem crH19r9_run : crH19run 70 crH19r9 = true := by kernel_rfl
theorem crH19r10_run : crH19run 71 crH19r10 = true := by kernel_rfl
theorem crH19r11_run : crH19run 70 crH19r11 = true := by kernel_rfl
theorem crH19r12_run : crH19run 71 crH19r12 = true := by kernel_rfl
theorem crH19r13_run : crH19run 70 crH19r13 = true := by kernel_rfl
theorem crH19r14_run : crH19run 71 crH19r14 = true := by kernel_rfl
theorem crH19r15_run : crH19run 70 crH19r15 = true := by kernel_rfl
theorem crH19r16_run : crH19run 71 crH19r16 = true := by kernel_rfl
theorem crH19r17_run : crH19run 70 crH19r17 = true := by kernel_rfl
theorem crH19r18_run : crH19run 71 crH19r18 = true := by kernel_rfl
theorem crH19r19_run : crH19run 70 crH19r19 = true := by kernel_rfl
theorem crH19r20_run : crH19run 71 crH19r20 = true := by kernel_rfl
theorem crH19r21_run : crH19run 70 crH19r21 = true := by kernel_rfl
theorem crH19r22_run : crH19run 71 crH19r22 = true := by kernel_rfl
theorem crH19r23_run : crH19run 70 crH19r23 = true := by kernel_rfl
theorem crH19r24_run : crH19run 71 crH19r24 = true := by kernel_rfl
theorem crH19r25_run : crH19run 70 crH19r25 = true := by kernel_rfl
theorem crH19r26_run : crH19run 71 crH19r26 = true := by kernel_rfl
theorem crH19r27_run : crH19run 70 crH19r27 = true := by kernel_rfl
theorem crH19r28_run : crH19run 71 crH19r28 = true := by kernel_rfl
theorem crH19r29_run : crH19run 70 crH19r29 = true := by kernel_rfl
theorem crH19r30_run : crH19run 71 crH19r30 = true := by kernel_rfl
theorem crH19r31_run : crH19run 70 crH19r31 = true := by kernel_rfl
theorem crH19r32_run : crH19run 71 crH19r32 = true := by kernel_rfl
theorem crH19r33_run : crH19run 70 crH19r33 = true := by kernel_rfl
theorem crH19r34_run : crH19run 71 crH19r34 = true := by kernel_rfl
theorem crH19r35_run : crH19run 70 crH19r35 = true := by kernel_rfl
theorem crH19r36_run : crH19run 71 crH19r36 = true := by kernel_rfl
theorem crH19r37_run : crH19run 70 crH19r37 = true := by kernel_rfl
theorem crH19r38_run : crH19run 71 crH19r38 = true := by kernel_rfl
theorem crH19r39_run : crH19run 70 crH19r39 = true := by kernel_rfl
theorem crH19r40_run : crH19run 71 crH19r40 = true := by kernel_rfl
theorem crH19r41_run : crH19run 70 crH19r41 = true := by kernel_rfl
theorem crH19r42_run : crH19run 71 crH19r42 = true := by kernel_rfl
theorem crH19r43_run : crH19run 70 crH19r43 = true := by kernel_rfl
theorem crH19r44_run : crH19run 71 crH19r44 = true := by kernel_rfl
theorem crH19r45_run : crH19run 70 crH19r45 = true := by kernel_rfl
theorem crH19r46_run : crH19run 71 crH19r46 = true := by kernel_rfl
theorem crH19r47_run : crH19run 85 crH19r47 = true := by kernel_rfl
theorem crH19r48_run : crH19run 15 crH19r48 = true := by kernel_rfl
theorem crH19r49_run : crH19run 85 crH19r49 = true := by kernel_rfl
theorem crH19r50_run : crH19run 70 crH19r50 = true := by kernel_rfl
theorem crH19r51_run : crH19run 71 crH19r51 = true := by kernel_rfl
theorem crH19r52_run : crH19run 85 crH19r52 = true := by kernel_rfl
theorem crH19r53_run : crH19run 15 crH19r53 = true := by kernel_rfl
theorem crH19r54_run : crH19run 85 crH19r54 = true := by kernel_rfl
theorem crH19r55_run : crH19run 70 crH19r55 = true := by kernel_rfl
theorem crH19r56_run : crH19run 71 crH19r56 = true := by kernel_rfl
theorem crH19r57_run : crH19run 85 crH19r57 = true := by kernel_rfl
theorem crH19r58_run : crH19run 15 crH19r58 = true := by kernel_rfl
theorem crH19r59_run : crH19run 85 crH19r59 = true := by kernel_rfl
theorem crH19r60_run : crH19run 70 crH19r60 = true := by kernel_rfl
theorem crH19r61_run : crH19run 71 crH19r61 = true := by kernel_rfl
theorem crH19r62_run : crH19run 85 crH19r62 = true := by kernel_rfl
theorem crH19r63_run : crH19run 15 crH19r63 = true := by kernel_rfl
theorem crH19r64_run : crH19run 85 crH19r64 = true := by kernel_rfl
theorem crH19r65_run : crH19run 70 crH19r65 = true := by kernel_rfl
theorem crH19r66_run : crH19run 71 crH19r66 = true := by kernel_rfl
theorem crH19r67_run : crH19run 85 crH19r67 = true := by kernel_rfl
theorem crH19r68_run : crH19run 15 crH19r68 = true := by kernel_rfl
theorem crH19r69_run : crH19run 85 crH19r69 = true := by kernel_rfl
theorem crH19r70_run : crH19run 70 crH19r70 = true := by kernel_rfl
theorem crH19r71_run : crH19run 71 crH19r71 = true := by kernel_rfl
theorem crH19r72_run : crH19run 85 crH19r72 = true := by kernel_rfl
theorem crH19r73_run : crH19run 15 crH19r73 = true := by kernel_rfl
theorem crH19r74_run : crH19run 85 crH19r74 = true := by kernel_rfl
theorem crH19r75_run : crH19run 70 crH19r75 = true := by kernel_rfl
theorem crH19r76_run : crH19run 71 crH19r76 = true := by kernel_rfl
theorem crH19r77_run : crH19run 85 crH19r77 = true := by kernel_rfl
theorem crH19r78_run : crH19run 15 crH19r78 = true := by kernel_rfl
theorem crH19r79_run : crH19run 85 crH19r79 = true := by kernel_rfl
theorem crH19r80_run : crH19run 70 crH19r80 = true := by kernel_rfl
theorem crH19r81_run : crH19run 71 crH19r81 = true := by kernel_rfl
theorem crH19r82_run : crH19run 85 crH19r82 = true := by kernel_rfl
theorem crH19r83_run : crH19run 15 crH19r83 = true := by kernel_rfl
theorem crH19r84_run : crH19run 85 crH19r84 = true := by kernel_rfl
theorem crH19r85_run : crH19run 70 crH19r85 = true := by kernel_rfl
theorem crH19r86_run : crH19run 71 crH19r86 = true := by kernel_rfl
theorem crH19r87_run : crH19run 85 crH19r87 = true := by kernel_rfl
theorem crH19r88_run : crH19run 15 crH19r88 = true := by kernel_rfl
theorem crH19r89_run : crH19run 85 crH19r89 = true := by kernel_rfl
theorem crH19r90_run : crH19run 70 crH19r90 = true := by kernel_rfl
theorem crH19r91_run : crH19run 71 crH19r91 = true := by kernel_rfl
theorem crH19r92_run : crH19run 85 crH19r92 = true := by kernel_rfl
theorem crH19r93_run : crH19run 15 crH19r93 = true := by kernel_rfl
theorem crH19r94_run : crH19run 85 crH19r94 = true := by kernel_rfl
theorem crH19r95_run : crH19run 70 crH19r95 = true := by kernel_rfl
theorem crH19r96_run : crH19run 71 crH19r96 = true := by kernel_rfl
theorem crH19r97_run : crH19run 85 crH19r97 = true := by kernel_rfl
theorem crH19r98_run : crH19run 15 crH19r98 = true := by kernel_rfl
theorem crH19r99_run : crH19run 85 crH19r99 = true := by kernel_rfl
theorem crH19r100_run : crH19run 70 crH19r100 = true := by kernel_rfl
theorem crH19r101_run : crH19run 71 crH19r101 = true := by kernel_rfl
theorem crH19r102_run : crH19run 85 crH19r102 = true := by kernel_rfl
theorem crH19r103_run : crH19run 15 crH19r103 = true := by kernel_rfl
theorem crH19r104_run : crH19run 85 crH19r104 = true := by kernel_rfl
theorem crH19r105_run : crH19run 70 crH19r105 = true := by kernel_rfl
theorem crH19r106_run : crH19run 71 crH19r106 = true := by kernel_rfl
theorem crH19r107_run : crH19run 85 crH19r107 = true := by kernel_rfl
theorem crH19r108_run : crH19run 15 crH19r108 = true := by kernel_rfl
theorem crH19r109_run : crH19run 85 crH19r109 = true := by kernel_rfl
theorem crH19r110_run : crH19run 70 crH19r110 = true := by kernel_rfl
theorem crH19r111_run : crH19run 71 crH19r111 = true := by kernel_rfl
theorem crH19r112_run : crH19run 85 crH19r112 = true := by kernel_rfl
theorem crH19r113_run : crH19run 15 crH19r113 = true := by kernel_rfl
theorem crH19r114_run : crH19run 85 crH19r114 = true := by kernel_rfl
theorem crH19r115_run : crH19run 70 crH19r115 = true := by kernel_rfl
theorem crH19r116_run : crH19run 71 crH19r116 = true := by kernel_rfl
theorem crH19r117_run : crH19run 85 crH19r117 = true := by kernel_rfl
theorem crH19r118_run : crH19run 15 crH19r118 = true := by kernel_rfl
theorem crH19r119_run : crH19run 85 crH19r119 = true := by kernel_rfl
theorem crH19r120_run : crH19run 70 crH19r120 = true := by kernel_rfl
theorem crH19r121_run : crH19run 71 crH19r121 = true := by kernel_rfl
theorem crH19r122_run : crH19run 85 crH19r122 = true := by kernel_rfl
theorem crH19r123_run : crH19run 15 crH19r123 = true := by kernel_rfl
theorem crH19r124_run : crH19run 85 crH19r124 = true := by kernel_rfl
theorem crH19r125_run : crH19run 70 crH19r125 = true := by kernel_rfl
theorem crH19r126_run : crH19run 71 crH19r126 = true := by kernel_rfl
theorem crH19r127_run : crH19run 85 crH19r127 = true := by kernel_rfl
theorem crH19r128_run : crH19run 15 crH19r128 = true := by kernel_rfl
theorem crH19r129_run : crH19run 85 crH19r129 = true := by kernel_rfl
theorem crH19r130_run : crH19run 70 crH19r130 = true := by kernel_rfl
theorem crH19r131_run : crH19run 71 crH19r131 = true := by kernel_rfl
theorem crH19r132_run : crH19run 85 crH19r132 = true := by kernel_rfl
theorem crH19r133_run : crH19run 15 crH19r133 = true := by kernel_rfl
theorem crH19r134_run : crH19run 85 crH19r134 = true := by kernel_rfl
theorem crH19r135_run : crH19run 70 crH19r135 = true := by kernel_rfl
theorem crH19r136_run : crH19run 71 crH19r136 = true := by kernel_rfl
theorem crH19r137_run : crH19run 85 crH19r137 = true := by kernel_rfl
theorem crH19r138_run : crH19run 15 crH19r138 = true := by kernel_rfl
theorem crH19r139_run : crH19run 85 crH19r139 = true := by kernel_rfl
theorem crH19r140_run : crH19run 70 crH19r140 = true := by kernel_rfl
theorem crH19r141_run : crH19run 71 crH19r141 = true := by kernel_rfl
theorem crH19r142_run : crH19run 85 crH19r142 = true := by kernel_rfl
theorem crH19r143_run : crH19run 15 crH19r143 = true := by kernel_rfl
theorem crH19r144_run : crH19run 85 crH19r144 = true := by kernel_rfl
theorem crH19r145_run : crH19run 70 crH19r145 = true := by kernel_rfl
theorem crH19r146_run : crH19run 71 crH19r146 = true := by kernel_rfl
theorem crH19r147_run : crH19run 15 crH19r147 = true := by kernel_rfl
theorem crH19r148_run : crH19run 85 crH19r148 = true := by kernel_rfl
theorem crH19r149_run : crH19run 85 crH19r149 = true := by kernel_rfl
theorem crH19r150_run : crH19run 85 crH19r150 = true := by kernel_rfl
theorem crH19r151_run : crH19run 85 crH19r151 = true := by kernel_rfl
theorem crH19r152_run : crH19run 85 crH19r152 = true := by kernel_rfl
theorem crH19r153_run : crH19run 85 crH19r153 = true := by kernel_rfl
theorem crH19r154_run : crH19run 85 crH19r154 = true := by kernel_rfl
theorem crH19r155_run : crH19run 85 crH19r155 = true := by kernel_rfl
theorem crH19r156_run : crH19run 85 crH19r156 = true := by kernel_rfl
theorem crH19r157_run : crH19run 85 crH19r157 = true := by kernel_rfl
theorem crH19r158_run : crH19run 85 crH19r158 = true := by kernel_rfl
theorem crH19r159_run : crH19run 85 crH19r159 = true := by kernel_rfl
theorem crH19r160_run : crH19run 85 crH19r160 = true := by kernel_rfl
theorem crH19r161_run : crH19run 85 crH19r161 = true := by kernel_rfl
theorem crH19r162_run : crH19run 85 crH19r162 = true := by kernel_rfl
theorem crH19r163_run : crH19run 85 crH19r163 = true := by kernel_rfl
theorem crH19r164_run : crH19run 85 crH19r164 = true := by kernel_rfl
theorem crH19r165_run : crH19run 85 crH19r165 = true := by kernel_rfl
theorem crH19r166_run : crH19run 85 crH19r166 = true := by kernel_rfl
theorem crH19r167_run : crH19run 85 crH19r167 = true := by kernel_rfl
theorem crH19r168_run : crH19run 85 crH19r168 = true := by kernel_rfl
theorem crH19r169_run : crH19run 85 crH19r169 = true := by kernel_rfl
theorem crH19r170_run : crH19run 85 crH19r170 = true := by kernel_rfl
theorem crH19r171_run : crH19run 85 crH19r171 = true := by kernel_rfl
theorem crH19r172_run : crH19run 85 crH19r172 = true := by kernel_rfl
theorem crH19r173_run : crH19run 85 crH19r173 = true := by kernel_rfl
theorem crH19r174_run : crH19run 85 crH19r174 = true := by kernel_rfl
theorem crH19r175_run : crH19run 85 crH19r175 = true := by kernel_rfl
theorem crH19r176_run : crH19run 85 crH19r176 = true := by kernel_rfl
theorem crH19r177_run : crH19run 85 crH19r177 = true := by kernel_rfl
theorem crH19r178_run : crH19run 85 crH19r178 = true := by kernel_rfl
theorem crH19r179_run : crH19run 85 crH19r179 = true := by kernel_rfl
theorem crH19r180_run : crH19run 85 crH19r180 = true := by kernel_rfl
theorem crH19r181_run : crH19run 85 crH19r181 = true := by kernel_rfl
theorem crH19r182_run : crH19run 85 crH19r182 = true := by kernel_rfl
theorem crH19r183_run : crH19run 85 crH19r183 = true := by kernel_rfl
theorem crH19r184_run : crH19run 85 crH19r184 = true := by kernel_rfl
theorem crH19r185_run : crH19run 85 crH19r185 = true := by kernel_rfl
theorem crH19r186_run : crH19run 85 crH19r186 = true := by kernel_rfl
theorem crH19r187_run : crH19run 85 crH19r187 = true := by kernel_rfl
theorem crH19r188_run : crH19run 85 crH19r188 = true := by kernel_rfl
theorem crH19r189_run : crH19run 85 crH19r189 = true := by kernel_rfl
theorem crH19r190_run : crH19run 15 crH19r190 = true := by kernel_rfl
theorem crH19r191_run : crH19run 15 crH19r191 = true := by kernel_rfl
end Go.Proofs.YtcgdnhkibjldjaaGreatDoor
