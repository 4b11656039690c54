import Derived.Test.YtpocldjdlookjaaPxA
import Derived.Test.YtpocldjdlookjaaPxH
import Derived.Test.YtpocldjdlookjaaProg
import Derived.Test.YtpocldjdlookjaaPxI
import Derived.Laws.RangeString
set_option linter.all false
set_option maxRecDepth 10000
namespace Go.PX
def tys : Tys := (.nd (.nd (.nd (.nd (.nd (.nd .lf 3
 { size := 1, bytes := 8, kd := (.int .i64), isAgg := false, held := false, zero := some [.int .i64 0] }
 .lf) 4
 { size := 1, bytes := 1, kd := .bool, isAgg := false, held := false, zero := some [.bool false] }
 .lf) 5
 { size := 1, bytes := 1, kd := (.int .u8), isAgg := false, held := false, zero := some [.int .u8 0] }
 (.nd (.nd .lf 9
 { size := 1, bytes := 16, kd := .str, isAgg := false, held := false, zero := some [.str ⟨#[]⟩] }
 .lf) 21
 { size := 1, bytes := 4, kd := (.int .i32), isAgg := false, held := false, zero := some [.int .i32 0] }
 .lf)) 22
 { size := 1, bytes := 24, kd := (.slice 75), isAgg := false, held := false, zero := some [.nils] }
 (.nd (.nd (.nd .lf 23
 { size := 1, bytes := 24, kd := (.slice 73), isAgg := false, held := false, zero := some [.nils] }
 .lf) 25
 { size := 4, bytes := 64, kd := (.struct [(0, 22), (1, 23), (2, 3), (3, 3)]), isAgg := true, held := false, zero := some [.nils, .nils, .int .i64 0, .int .i64 0] }
 .lf) 26
 { size := 1, bytes := 24, kd := (.slice 32), isAgg := false, held := false, zero := some [.nils] }
 (.nd .lf 27
 { size := 1, bytes := 8, kd := (.int .i64), isAgg := false, held := false, zero := some [.int .i64 0] }
 .lf))) 32
 { size := 1, bytes := 24, kd := (.slice 3), isAgg := false, held := false, zero := some [.nils] }
 (.nd (.nd (.nd (.nd .lf 50
 { size := 3, bytes := 24, kd := (.array 3 3), isAgg := true, held := false, zero := some [.int .i64 0, .int .i64 0, .int .i64 0] }
 .lf) 58
 { size := 1, bytes := 24, kd := (.slice 5), isAgg := false, held := false, zero := some [.nils] }
 .lf) 64
 { size := 1, bytes := 2, kd := (.int .u16), isAgg := false, held := false, zero := some [.int .u16 0] }
 (.nd .lf 66
 { size := 3, bytes := 32, kd := (.struct [(0, 58), (1, 5), (2, 64)]), isAgg := true, held := false, zero := some [.nils, .int .u8 0, .int .u16 0] }
 .lf)) 73
 { size := 2, bytes := 16, kd := (.struct [(0, 3), (1, 3)]), isAgg := true, held := false, zero := some [.int .i64 0, .int .i64 0] }
 (.nd (.nd (.nd .lf 75
 { size := 3, bytes := 48, kd := (.struct [(0, 9), (1, 3), (2, 32)]), isAgg := true, held := false, zero := some [.str ⟨#[]⟩, .int .i64 0, .nils] }
 .lf) 82
 { size := 1, bytes := 8, kd := .other, isAgg := false, held := false, zero := some [.nilf] }
 .lf) 85
 { size := 1, bytes := 24, kd := (.slice 9), isAgg := false, held := false, zero := some [.nils] }
 (.nd .lf 87
 { size := 1, bytes := 8, kd := .other, isAgg := false, held := false, zero := some [.nilp] }
 .lf)))) 90
 { size := 5, bytes := 40, kd := (.array 5 3), isAgg := true, held := false, zero := some [.int .i64 0, .int .i64 0, .int .i64 0, .int .i64 0, .int .i64 0] }
 (.nd (.nd (.nd (.nd (.nd .lf 92
 { size := 6, bytes := 48, kd := (.struct [(0, 3), (1, 90)]), isAgg := true, held := false, zero := some [.int .i64 0, .int .i64 0, .int .i64 0, .int .i64 0, .int .i64 0, .int .i64 0] }
 .lf) 98
 { size := 1, bytes := 8, kd := .other, isAgg := false, held := false, zero := some [.nilf] }
 .lf) 99
 { size := 1, bytes := 8, kd := .other, isAgg := false, held := false, zero := some [.nilf] }
 (.nd (.nd .lf 105
 { size := 1, bytes := 8, kd := .other, isAgg := false, held := false, zero := some [.nilp] }
 .lf) 109
 { size := 1, bytes := 24, kd := (.slice 114), isAgg := false, held := false, zero := some [.nils] }
 .lf)) 111
 { size := 4, bytes := 96, kd := (.struct [(0, 32), (1, 109), (2, 26), (3, 32)]), isAgg := true, held := false, zero := some [.nils, .nils, .nils, .nils] }
 (.nd (.nd (.nd .lf 114
 { size := 6, bytes := 48, kd := (.struct [(0, 3), (1, 90)]), isAgg := true, held := false, zero := some [.int .i64 0, .int .i64 0, .int .i64 0, .int .i64 0, .int .i64 0, .int .i64 0] }
 .lf) 117
 { size := 1, bytes := 8, kd := (.map 92 3), isAgg := false, held := false, zero := some [.nilm] }
 .lf) 122
 { size := 5, bytes := 72, kd := (.struct [(0, 25), (4, 3)]), isAgg := true, held := false, zero := some [.nils, .nils, .int .i64 0, .int .i64 0, .int .i64 0] }
 (.nd .lf 123
 { size := 1, bytes := 8, kd := .other, isAgg := false, held := false, zero := some [.nilf] }
 .lf))) 129
 { size := 7, bytes := 56, kd := (.struct [(0, 3), (1, 92)]), isAgg := true, held := false, zero := some [.int .i64 0, .int .i64 0, .int .i64 0, .int .i64 0, .int .i64 0, .int .i64 0, .int .i64 0] }
 (.nd (.nd (.nd (.nd .lf 130
 { size := 1, bytes := 8, kd := (.map 129 3), isAgg := false, held := false, zero := some [.nilm] }
 .lf) 138
 { size := 1, bytes := 8, kd := .other, isAgg := false, held := false, zero := some [.nilf] }
 .lf) 141
 { size := 3, bytes := 24, kd := (.struct [(0, 87), (1, 117), (2, 117)]), isAgg := true, held := false, zero := some [.nilp, .nilm, .nilm] }
 (.nd .lf 145
 { size := 1, bytes := 8, kd := (.int .u64), isAgg := false, held := false, zero := some [.int .u64 0] }
 .lf)) 149
 { size := 2, bytes := 16, kd := (.struct [(0, 3), (1, 123)]), isAgg := true, held := false, zero := some [.int .i64 0, .nilf] }
 (.nd (.nd (.nd .lf 150
 { size := 1, bytes := 24, kd := (.slice 149), isAgg := false, held := false, zero := some [.nils] }
 .lf) 151
 { size := 1, bytes := 8, kd := .other, isAgg := false, held := false, zero := some [.nilp] }
 .lf) 153
 { size := 1, bytes := 4, kd := (.int .u32), isAgg := false, held := false, zero := some [.int .u32 0] }
 (.nd .lf 155
 { size := 1, bytes := 8, kd := (.int .u64), isAgg := false, held := false, zero := some [.int .u64 0] }
 .lf)))))
end Go.PX
namespace Go.PX
open Go.Proofs
theorem tysOk : TysOk Try.prog tys := tysB_spec (by decide +kernel)
theorem mixed : Try.prog.follows .mixedOrders = true := by decide +kernel
end Go.PX
namespace Go.PX
def ft4 : FT := ⟨[0, 1, 2, 3, 4, 5, 6, 7, 8, 9, 10, 28, 54, 73], []⟩
def ft15 : FT := ⟨[0, 1, 2, 3, 4, 5, 6, 7, 8, 9, 22, 34, 35, 36, 37, 50, 54, 55, 56, 57, 61, 67, 75, 88], []⟩
def ft16 : FT := ⟨[0, 1, 2, 3, 4, 5, 6, 7, 8, 20, 30, 35, 55, 61, 92, 94, 106], [(19, ⟨[], [⟨[1], []⟩, ⟨[95], []⟩, ⟨[7], [0, 1]⟩, ⟨[96, 97], []⟩, ⟨[98], []⟩, ⟨[99], []⟩, ⟨[1], [0, 1, 2, 3, 4, 5]⟩, ⟨[101], [0, 1, 2, 3, 4, 5]⟩, ⟨[102], [0, 1, 2, 3, 4, 5]⟩, ⟨[100, 103], []⟩, ⟨[104], []⟩]⟩)]⟩
def ft17 : FT := ⟨[0, 1, 2, 4, 5, 6, 7, 8, 16], []⟩
def ft19 : FT := ⟨[0, 1, 2, 4, 5, 8, 9, 11, 13, 22, 28, 29, 30, 31, 34, 35, 36, 37], []⟩
def ft21 : FT := ⟨[0, 1, 4, 5, 10, 14, 25], [(6, ⟨[], [⟨[0], []⟩, ⟨[5], [0]⟩, ⟨[17, 18], []⟩, ⟨[19], []⟩, ⟨[1], [0, 1, 2, 3]⟩, ⟨[5], [0, 1, 2, 3, 4]⟩, ⟨[21, 22], [0, 1, 2, 3]⟩, ⟨[23], [0, 1, 2, 3]⟩, ⟨[20, 24], []⟩]⟩)]⟩
def ft22 : FT := ⟨[0, 1, 2, 4, 5, 6, 7, 8, 17, 21, 22], [(6, ⟨[27, 28], [⟨[4], []⟩, ⟨[8], [0]⟩, ⟨[25], [0]⟩, ⟨[26], [0]⟩, ⟨[24, 27], []⟩, ⟨[4, 28], []⟩]⟩)]⟩
def ft24 : FT := ⟨[0, 1, 4, 5, 10, 14, 26], [(6, ⟨[], [⟨[0], []⟩, ⟨[5], [0]⟩, ⟨[17, 18], []⟩, ⟨[19], []⟩, ⟨[1], [0, 1, 2, 3]⟩, ⟨[5], [0, 1, 2, 3, 4]⟩, ⟨[21, 22], [0, 1, 2, 3]⟩, ⟨[23], [0, 1, 2, 3]⟩, ⟨[20, 24], []⟩, ⟨[25], []⟩]⟩)]⟩
def ft25 : FT := ⟨[0, 1, 2, 4, 5, 6, 7, 8, 9, 10, 19, 25, 26, 27, 30], [(9, ⟨[34, 35], [⟨[4], []⟩, ⟨[9], [0]⟩, ⟨[32], [0]⟩, ⟨[33], [0]⟩, ⟨[31, 34], []⟩, ⟨[4, 35], []⟩]⟩)]⟩
def ft27 : FT := ⟨[0, 1, 2, 3, 4, 5, 6, 7, 8, 9, 10, 11, 12, 13, 14, 15, 16, 17, 18, 19, 20, 21, 22, 23, 24, 25, 27], [(3, ⟨[38], [⟨[1], []⟩, ⟨[30], []⟩, ⟨[31], []⟩, ⟨[32], []⟩, ⟨[1], [0, 1, 2, 3]⟩, ⟨[34], [0, 1, 2, 3]⟩, ⟨[35], [0, 1, 2, 3]⟩, ⟨[36], [0, 1, 2, 3]⟩, ⟨[33, 37], []⟩, ⟨[2], []⟩, ⟨[38, 39], []⟩]⟩), (4, ⟨[42], [⟨[1], []⟩, ⟨[], [0]⟩, ⟨[42], [0]⟩, ⟨[41, 43], []⟩, ⟨[44], []⟩, ⟨[40], []⟩, ⟨[40], [5]⟩, ⟨[40], [5, 6]⟩, ⟨[40], [5, 6, 7]⟩, ⟨[45], [6, 7, 8]⟩, ⟨[46], [7, 8]⟩, ⟨[47], [8]⟩, ⟨[48], []⟩]⟩), (5, ⟨[51], [⟨[1], []⟩, ⟨[], [0]⟩, ⟨[51], [0]⟩, ⟨[50, 52], []⟩, ⟨[53], []⟩, ⟨[49], []⟩, ⟨[49], [5]⟩, ⟨[54], [6]⟩, ⟨[55], []⟩]⟩), (6, ⟨[58], [⟨[1], []⟩, ⟨[], [0]⟩, ⟨[58], [0]⟩, ⟨[57, 59], []⟩, ⟨[60], []⟩, ⟨[56], []⟩, ⟨[56], [5]⟩, ⟨[61], [6]⟩, ⟨[62], []⟩]⟩), (7, ⟨[65], [⟨[1], []⟩, ⟨[], [0]⟩, ⟨[65], [0]⟩, ⟨[64, 66], []⟩, ⟨[67], []⟩, ⟨[63], []⟩, ⟨[63], [5]⟩, ⟨[68], [6]⟩, ⟨[69], []⟩]⟩), (13, ⟨[100], [⟨[1], []⟩, ⟨[], [0]⟩, ⟨[100], [0]⟩, ⟨[99, 101], []⟩, ⟨[102], []⟩, ⟨[98], []⟩, ⟨[98], [5]⟩, ⟨[103], [6]⟩, ⟨[104], []⟩]⟩), (14, ⟨[107], [⟨[1], []⟩, ⟨[], [0]⟩, ⟨[107], [0]⟩, ⟨[106, 108], []⟩, ⟨[109], []⟩, ⟨[105], []⟩, ⟨[105], [5]⟩, ⟨[110], [6]⟩, ⟨[111], []⟩]⟩)]⟩
def ft28 : FT := ⟨[0, 1, 2, 3, 4, 5, 6, 13, 19], []⟩
def ft29 : FT := ⟨[0, 1, 2, 3, 6, 14], [(4, ⟨[], [⟨[1], []⟩, ⟨[1], [0]⟩, ⟨[17], [0]⟩, ⟨[16, 18], []⟩, ⟨[19], []⟩, ⟨[20], []⟩, ⟨[21], []⟩, ⟨[22], []⟩, ⟨[], []⟩]⟩)]⟩
def ft30 : FT := ⟨[0, 1, 2, 3, 4, 5, 6, 7, 8, 9, 10, 11, 12, 19, 26, 35, 44, 45, 46, 49], [(17, ⟨[53, 54], [⟨[2], []⟩, ⟨[11], [0]⟩, ⟨[51], [0]⟩, ⟨[52], [0]⟩, ⟨[50, 53], []⟩, ⟨[12], [0, 1, 2, 3, 4]⟩, ⟨[2, 54], [5]⟩, ⟨[8, 55], []⟩]⟩)]⟩
def ft31 : FT := ⟨[0, 1, 2, 3, 4, 7, 8, 9, 10, 11, 12, 13, 14, 22, 32, 58, 66], [(4, ⟨[8], [⟨[1], []⟩, ⟨[1], [0]⟩, ⟨[25], [0]⟩, ⟨[24, 26], []⟩, ⟨[], [0, 1, 2, 3]⟩, ⟨[8, 27], []⟩]⟩), (16, ⟨[], [⟨[9], []⟩, ⟨[14], [0]⟩, ⟨[61, 62], []⟩, ⟨[63], []⟩, ⟨[13], [0, 1, 2, 3]⟩, ⟨[64, 65], []⟩]⟩)]⟩
def ft32 : FT := ⟨[0, 1, 2, 3, 5, 6, 13, 21], []⟩
def ft33 : FT := ⟨[0, 1, 2, 3, 4, 5, 6, 7, 18, 29, 37], [(9, ⟨[], [⟨[1], []⟩, ⟨[6], [0]⟩, ⟨[7], [0, 1]⟩, ⟨[33, 34], [0]⟩, ⟨[35], [0]⟩, ⟨[32, 36], []⟩]⟩)]⟩
def ft34 : FT := ⟨[0, 1, 2, 3, 4, 5, 12, 18, 21, 22, 23, 38], [(9, ⟨[34], [⟨[1], []⟩, ⟨[4], [0]⟩, ⟨[26], [0]⟩, ⟨[27], [0]⟩, ⟨[28], [0]⟩, ⟨[5], [0, 1, 2, 3, 4]⟩, ⟨[30], [0, 1, 2, 3, 4]⟩, ⟨[29, 31], [0]⟩, ⟨[25, 32], []⟩, ⟨[33], []⟩, ⟨[34], []⟩, ⟨[], [0, 1, 2, 3, 4, 5, 6, 7, 8, 9, 10]⟩, ⟨[35, 36], []⟩, ⟨[37], []⟩]⟩)]⟩
def ft35 : FT := ⟨[0, 1, 2, 3, 4, 5, 6, 17, 25], [(6, ⟨[], [⟨[1], []⟩, ⟨[1], [0]⟩, ⟨[6], [0, 1]⟩, ⟨[21, 22], [0]⟩, ⟨[20, 23], []⟩, ⟨[24], []⟩]⟩)]⟩
def ft36 : FT := ⟨[0, 1, 2, 4, 5, 6, 7, 8, 10, 11, 12, 20, 22, 23, 24, 25, 30, 35, 45], []⟩
def ft38 : FT := ⟨[0, 1, 2, 3, 6, 7, 8, 9, 16, 17, 18, 20, 27, 31, 54, 68, 69, 70, 95], [(13, ⟨[81], [⟨[3], []⟩, ⟨[8], [0]⟩, ⟨[73], [0]⟩, ⟨[74], [0]⟩, ⟨[75], [0]⟩, ⟨[17], [0, 1, 2, 3, 4]⟩, ⟨[77], [0, 1, 2, 3, 4]⟩, ⟨[76, 78], [0]⟩, ⟨[72, 79], []⟩, ⟨[80], []⟩, ⟨[81], []⟩]⟩), (14, ⟨[90, 91], [⟨[18], []⟩, ⟨[16], [0]⟩, ⟨[84], [0]⟩, ⟨[1], [0, 1, 2]⟩, ⟨[86], [0, 1, 2]⟩, ⟨[2], [0, 1, 2, 3, 4]⟩, ⟨[87, 88], [0, 1, 2]⟩, ⟨[89], [0, 1, 2]⟩, ⟨[], [0, 1, 2, 3, 4, 5, 6, 7]⟩, ⟨[83, 85, 90, 91], []⟩, ⟨[92], []⟩, ⟨[82], []⟩, ⟨[82], [11]⟩, ⟨[93], [12]⟩, ⟨[94], []⟩]⟩)]⟩
def ft40 : FT := ⟨[0, 1, 4, 5, 17], []⟩
def ft42 : FT := ⟨[0, 2, 3, 4, 8], []⟩
def ft49 : FT := ⟨[0, 1, 4, 5, 9, 17], []⟩
def ft50 : FT := ⟨[0, 1, 2, 4, 5, 6, 11, 16], []⟩
def ft55 : FT := ⟨[0, 1, 2, 3, 4, 6], []⟩
def ft56 : FT := ⟨[0, 2, 3, 5, 7, 8, 9, 11, 18], []⟩
def ft57 : FT := ⟨[0, 1, 4], []⟩
def ft58 : FT := ⟨[0, 1, 2, 3], []⟩
def ft59 : FT := ⟨[0, 1, 4, 5, 7, 8, 9, 10, 11, 14, 20], []⟩
def ft60 : FT := ⟨[0, 1, 2, 6], []⟩
def ft61 : FT := ⟨[0, 1, 4, 7, 11], []⟩
def ft62 : FT := ⟨[0, 1, 4, 5, 9, 19, 33], [(6, ⟨[], [⟨[5], []⟩, ⟨[20], []⟩, ⟨[21], []⟩, ⟨[0, 22], []⟩, ⟨[5, 22], [3]⟩, ⟨[22, 23, 24], []⟩, ⟨[22, 25], []⟩, ⟨[0, 22], [3, 4, 5, 6]⟩, ⟨[5, 22], [3, 4, 5, 6, 7]⟩, ⟨[22, 28], [3, 4, 5, 6, 7]⟩, ⟨[22, 27, 29], [3, 4, 5, 6]⟩, ⟨[22, 30], [3, 4, 5, 6]⟩, ⟨[22, 26, 31], []⟩, ⟨[22, 32], []⟩]⟩)]⟩
def ft63 : FT := ⟨[0, 1, 2, 4, 5, 8, 10, 17, 21, 25, 26, 27, 28, 37], [(13, ⟨[47], [⟨[2], []⟩, ⟨[2], [0]⟩, ⟨[41], [0]⟩, ⟨[42], [0]⟩, ⟨[43], [0]⟩, ⟨[44], [0]⟩, ⟨[40, 45], []⟩, ⟨[46], []⟩, ⟨[47], []⟩, ⟨[], []⟩]⟩)]⟩
def ft64 : FT := ⟨[0, 1, 2, 4, 6, 7, 8, 9, 10, 11, 12, 13, 14, 15, 27], [(6, ⟨[], [⟨[10], []⟩, ⟨[7], [0]⟩, ⟨[8], [0, 1]⟩, ⟨[4], [0, 1, 2]⟩, ⟨[28], [1, 2, 3]⟩, ⟨[29], [2, 3]⟩, ⟨[30], [3]⟩, ⟨[9, 31], []⟩]⟩), (9, ⟨[], [⟨[4], []⟩, ⟨[], [0]⟩, ⟨[], [0]⟩, ⟨[], [0]⟩, ⟨[9, 37], []⟩]⟩)]⟩
def ft66 : FT := ⟨[0, 1, 2, 4, 5, 6, 7, 8, 9, 12, 20, 33], [(7, ⟨[], [⟨[7], []⟩, ⟨[12], [0]⟩, ⟨[35], [1]⟩, ⟨[5, 36], []⟩, ⟨[], []⟩]⟩)]⟩
def ft68 : FT := ⟨[0, 1, 2, 3, 4], []⟩
def ft69 : FT := ⟨[0, 2, 3], []⟩
def ft70 : FT := ⟨[0, 1, 2, 6, 7, 8, 9, 11, 16, 27], []⟩
def ft72 : FT := ⟨[0, 2], []⟩
def ft73 : FT := ⟨[0, 1, 2, 3, 4, 6, 12, 13, 16, 28, 30, 34], [(1, ⟨[], [⟨[2], []⟩, ⟨[7], []⟩, ⟨[8], []⟩, ⟨[9], []⟩, ⟨[3], [0, 1, 2, 3]⟩, ⟨[10, 11], []⟩]⟩), (7, ⟨[], [⟨[2], []⟩, ⟨[18], []⟩, ⟨[19], []⟩, ⟨[20], []⟩, ⟨[3], [0, 1, 2, 3]⟩, ⟨[21, 22], []⟩]⟩), (8, ⟨[], [⟨[2], []⟩, ⟨[23], []⟩, ⟨[24], []⟩, ⟨[25], []⟩, ⟨[3], [0, 1, 2, 3]⟩, ⟨[26, 27], []⟩]⟩), (11, ⟨[], [⟨[2], []⟩, ⟨[35], []⟩, ⟨[36], []⟩, ⟨[37], []⟩, ⟨[3], [0, 1, 2, 3]⟩, ⟨[38, 39], []⟩]⟩), (13, ⟨[], [⟨[2], []⟩, ⟨[40], []⟩, ⟨[41], []⟩, ⟨[42], []⟩, ⟨[3], [0, 1, 2, 3]⟩, ⟨[43, 44], []⟩]⟩)]⟩
def ft74 : FT := ⟨[0, 1, 2, 3, 4, 5, 6, 7, 8, 9, 18, 38], [(1, ⟨[], [⟨[3], []⟩, ⟨[5], [0]⟩, ⟨[3], [0, 1]⟩, ⟨[12], [0, 1]⟩, ⟨[10, 11, 13], []⟩, ⟨[14], []⟩]⟩), (6, ⟨[], [⟨[4], []⟩, ⟨[21], []⟩, ⟨[4], [0, 1]⟩, ⟨[23], [0, 1]⟩, ⟨[3], [0, 1, 2, 3]⟩, ⟨[5], [0, 1, 2, 3, 4]⟩, ⟨[7], [0, 1, 2, 3, 4, 5]⟩, ⟨[9], [0, 1, 2, 3, 4, 5, 6]⟩, ⟨[27, 28], [0, 1, 2, 3, 4, 5]⟩, ⟨[29], [0, 1, 2, 3, 4, 5]⟩, ⟨[25, 26, 30], [0, 1, 2, 3]⟩, ⟨[31], [0, 1, 2, 3]⟩, ⟨[24, 32], [0, 1]⟩, ⟨[33], [0, 1]⟩, ⟨[34], [0, 1]⟩, ⟨[22, 35], []⟩, ⟨[36], []⟩, ⟨[37], []⟩]⟩)]⟩
def ft75 : FT := ⟨[0, 1, 2, 4, 5, 6, 7, 8, 9, 10, 11, 12, 13, 14, 15, 16, 17, 18, 19, 20, 34, 48, 68, 111, 135, 166, 174, 188, 217, 242], [(2, ⟨[], [⟨[5], []⟩, ⟨[25], []⟩, ⟨[], [0, 1]⟩, ⟨[27], [0, 1]⟩, ⟨[26, 28], []⟩, ⟨[29], []⟩]⟩), (7, ⟨[], [⟨[2], []⟩, ⟨[5], [0]⟩, ⟨[38], [0]⟩, ⟨[6], [0, 1, 2]⟩, ⟨[39, 40], [0]⟩, ⟨[41], [0]⟩, ⟨[1], [0, 1, 2, 3, 4, 5]⟩, ⟨[37, 42, 43], []⟩, ⟨[44], []⟩]⟩), (11, ⟨[10], [⟨[2], []⟩, ⟨[5], [0]⟩, ⟨[52], [0]⟩, ⟨[6], [0, 1, 2]⟩, ⟨[53, 54], [0]⟩, ⟨[55], [0]⟩, ⟨[8], [0, 1, 2, 3, 4, 5]⟩, ⟨[9], [0, 1, 2, 3, 4, 5, 6]⟩, ⟨[57, 58], [0, 1, 2, 3, 4, 5]⟩, ⟨[59], [0, 1, 2, 3, 4, 5]⟩, ⟨[51, 56, 60], []⟩, ⟨[], [0, 1, 2, 3, 4, 5, 6, 7, 8, 9, 10]⟩, ⟨[10, 61], []⟩]⟩), (12, ⟨[], [⟨[5], []⟩, ⟨[62], []⟩, ⟨[10], [0, 1]⟩, ⟨[64], [0, 1]⟩, ⟨[63, 65], []⟩, ⟨[66], []⟩, ⟨[67], []⟩]⟩), (14, ⟨[], [⟨[5], []⟩, ⟨[75], []⟩, ⟨[10], [0, 1]⟩, ⟨[77], [0, 1]⟩, ⟨[5], [0, 1, 2, 3]⟩, ⟨[79], [0, 1, 2, 3]⟩, ⟨[80], [0, 1, 2, 3]⟩, ⟨[76, 78], []⟩, ⟨[81, 82], []⟩]⟩), (15, ⟨[91, 92], [⟨[7], []⟩, ⟨[5], [0]⟩, ⟨[84], [0]⟩, ⟨[10], [0, 1, 2]⟩, ⟨[86], [0, 1, 2]⟩, ⟨[85, 87], [0]⟩, ⟨[88], [0]⟩, ⟨[89], [0]⟩, ⟨[90], [0]⟩, ⟨[83, 91], []⟩, ⟨[92], []⟩]⟩), (28, ⟨[159, 160], [⟨[11], []⟩, ⟨[5], [0]⟩, ⟨[139], [0]⟩, ⟨[14], [0, 1, 2]⟩, ⟨[140, 141], [0]⟩, ⟨[142], [0]⟩, ⟨[15], [0, 1, 2, 3, 4, 5]⟩, ⟨[143, 144], [0]⟩, ⟨[145], [0]⟩, ⟨[11], [0, 1, 2, 3, 4, 5, 6, 7, 8]⟩, ⟨[5], [0, 1, 2, 3, 4, 5, 6, 7, 8, 9]⟩, ⟨[148], [0, 1, 2, 3, 4, 5, 6, 7, 8, 9]⟩, ⟨[14], [0, 1, 2, 3, 4, 5, 6, 7, 8, 9, 10, 11]⟩, ⟨[149, 150], [0, 1, 2, 3, 4, 5, 6, 7, 8, 9]⟩, ⟨[151], [0, 1, 2, 3, 4, 5, 6, 7, 8, 9]⟩, ⟨[15], [0, 1, 2, 3, 4, 5, 6, 7, 8, 9, 10, 11, 12, 13, 14]⟩, ⟨[152, 153], [0, 1, 2, 3, 4, 5, 6, 7, 8, 9]⟩, ⟨[154], [0, 1, 2, 3, 4, 5, 6, 7, 8, 9]⟩, ⟨[147, 155], [0, 1, 2, 3, 4, 5, 6, 7, 8]⟩, ⟨[156], [0, 1, 2, 3, 4, 5, 6, 7, 8]⟩, ⟨[14], [0, 1, 2, 3, 4, 5, 6, 7, 8, 9, 10, 11, 12, 13, 14, 15, 16, 17, 18, 19]⟩, ⟨[158], [0, 1, 2, 3, 4, 5, 6, 7, 8, 9, 10, 11, 12, 13, 14, 15, 16, 17, 18, 19]⟩, ⟨[157, 159], [0, 1, 2, 3, 4, 5, 6, 7, 8]⟩, ⟨[138, 146], []⟩, ⟨[160, 161], []⟩]⟩), (39, ⟨[], [⟨[18], []⟩, ⟨[5], [0]⟩, ⟨[192], [0]⟩, ⟨[5], [0, 1, 2]⟩, ⟨[194], [0, 1, 2]⟩, ⟨[17], [0, 1, 2, 3, 4]⟩, ⟨[195, 196], [0, 1, 2]⟩, ⟨[197], [0, 1, 2]⟩, ⟨[19], [0, 1, 2, 3, 4, 5, 6, 7]⟩, ⟨[198, 199], [0, 1, 2]⟩, ⟨[200], [0, 1, 2]⟩, ⟨[193, 201], [0]⟩, ⟨[202], [0]⟩, ⟨[203], [0]⟩, ⟨[191, 204], []⟩, ⟨[205], []⟩]⟩)]⟩
def ft77 : FT := ⟨[0, 1, 2, 3, 4, 5, 6, 8, 19, 25, 27], [(1, ⟨[5], [⟨[2], []⟩, ⟨[10], []⟩, ⟨[11], []⟩, ⟨[12], []⟩, ⟨[3], [0, 1, 2, 3]⟩, ⟨[13, 14], []⟩, ⟨[15], []⟩, ⟨[9], []⟩, ⟨[9], [7]⟩, ⟨[], [0, 1, 2, 3, 4, 5, 6, 7, 8]⟩, ⟨[5, 16], [8]⟩, ⟨[17], []⟩]⟩), (3, ⟨[], [⟨[2], []⟩, ⟨[20], []⟩, ⟨[21], []⟩, ⟨[22], []⟩, ⟨[3], [0, 1, 2, 3]⟩, ⟨[23, 24], []⟩]⟩), (5, ⟨[], [⟨[5], []⟩, ⟨[2], [0]⟩, ⟨[8], [0, 1]⟩, ⟨[29, 30], [0]⟩, ⟨[31], [0]⟩, ⟨[28, 32], []⟩, ⟨[5, 33], []⟩]⟩), (6, ⟨[], [⟨[2], []⟩, ⟨[34], []⟩, ⟨[35], []⟩, ⟨[36], []⟩, ⟨[3], [0, 1, 2, 3]⟩, ⟨[5], [0, 1, 2, 3, 4]⟩, ⟨[37, 38, 39], []⟩]⟩)]⟩
def ft78 : FT := ⟨[0, 1, 2, 3, 4, 6, 7, 8, 9, 22, 31, 35, 40], []⟩
def ft79 : FT := ⟨[0, 1, 4, 5, 6, 7, 8, 9, 15, 49, 51, 52, 53, 63], []⟩
def ft80 : FT := ⟨[0, 1, 3], []⟩
def ft81 : FT := ⟨[0, 1, 2, 5, 20], [(2, ⟨[], [⟨[5], []⟩, ⟨[12], []⟩, ⟨[13], []⟩, ⟨[1, 14], []⟩, ⟨[1, 14], [3]⟩, ⟨[14, 16], [3]⟩, ⟨[14, 15, 17], []⟩, ⟨[14, 18], []⟩, ⟨[14, 19], []⟩]⟩)]⟩
def ft82 : FT := ⟨[0, 1, 2, 4], []⟩
def ft83 : FT := ⟨[0, 1, 2, 3, 4, 5, 6, 7, 8, 9, 10, 11, 12, 13, 14, 19, 26, 30, 31, 32, 46, 59], [(12, ⟨[], [⟨[13], []⟩, ⟨[5], [0]⟩, ⟨[61], [0]⟩, ⟨[10], [0, 1, 2]⟩, ⟨[63], [0, 1, 2]⟩, ⟨[60, 62], []⟩, ⟨[64, 65], []⟩]⟩), (14, ⟨[], [⟨[7], []⟩, ⟨[5], [0]⟩, ⟨[67, 68], []⟩, ⟨[69], []⟩, ⟨[67, 68], [2, 3]⟩, ⟨[71], [2, 3]⟩, ⟨[67, 70, 72], []⟩]⟩)]⟩
def ft86 : FT := ⟨[0, 1, 4], []⟩
def ft87 : FT := ⟨[0, 1, 2, 4], []⟩
def ft88 : FT := ⟨[0, 1, 4, 5, 7, 8, 9, 16], []⟩
def ft89 : FT := ⟨[0, 2, 3, 7, 11, 23, 45], []⟩
def ft90 : FT := ⟨[0, 1, 4, 5, 9, 17], []⟩
def ft91 : FT := ⟨[0, 1, 2, 3, 4, 6, 7, 8, 10, 11, 21, 27, 38, 39, 40, 41, 49], [(1, ⟨[8], [⟨[3], []⟩, ⟨[12], []⟩, ⟨[13], []⟩, ⟨[14], []⟩, ⟨[15], []⟩, ⟨[4], [0, 1, 2, 3, 4]⟩, ⟨[17], [0, 1, 2, 3, 4]⟩, ⟨[16, 18], []⟩, ⟨[19], []⟩, ⟨[], [0, 1, 2, 3, 4, 5, 6, 7, 8]⟩, ⟨[8, 20], []⟩]⟩), (11, ⟨[], [⟨[10], []⟩, ⟨[50], []⟩, ⟨[2], [0, 1]⟩, ⟨[11], [0, 1, 2]⟩, ⟨[52, 53], [0, 1]⟩, ⟨[54], [0, 1]⟩, ⟨[51], [2, 3, 4, 5]⟩, ⟨[55], []⟩]⟩)]⟩
def ft92 : FT := ⟨[0, 1, 2, 4, 6, 7, 8, 25, 26, 27, 32, 36, 41], [(1, ⟨[], [⟨[4], []⟩, ⟨[9], []⟩, ⟨[10], []⟩, ⟨[0], [0, 1, 2]⟩, ⟨[12], [0, 1, 2]⟩, ⟨[13], [0, 1, 2]⟩, ⟨[14], [0, 1, 2]⟩, ⟨[15], [0, 1, 2]⟩, ⟨[16], [0, 1, 2]⟩, ⟨[11, 17], []⟩, ⟨[4], []⟩, ⟨[18, 19], []⟩]⟩)]⟩
def ft93 : FT := ⟨[0, 1, 2, 3, 4, 5], []⟩
def ft94 : FT := ⟨[0, 1, 2, 3, 4, 5, 7, 8, 10, 23, 50, 61], [(1, ⟨[], [⟨[1], []⟩, ⟨[11], []⟩, ⟨[2], [0, 1]⟩, ⟨[13], [0, 1]⟩, ⟨[14], [0, 1]⟩, ⟨[15], [0, 1]⟩, ⟨[16], [0, 1]⟩, ⟨[3], [0, 1, 2, 3, 4, 5, 6]⟩, ⟨[18], [0, 1, 2, 3, 4, 5, 6]⟩, ⟨[17, 19], [0, 1]⟩, ⟨[20], [0, 1]⟩, ⟨[21], [0, 1]⟩, ⟨[12, 22], []⟩]⟩), (3, ⟨[], [⟨[8], []⟩, ⟨[31], []⟩, ⟨[32], []⟩, ⟨[4, 33], []⟩, ⟨[1, 33], [3]⟩, ⟨[2, 33], [3, 4]⟩, ⟨[3, 33], [3, 4, 5]⟩, ⟨[1, 33], [3, 4, 5, 6]⟩, ⟨[33, 36, 37, 38], [3, 4]⟩, ⟨[33, 34, 35, 39], []⟩, ⟨[33, 40], []⟩, ⟨[41], []⟩]⟩)]⟩
def ft97 : FT := ⟨[0, 1, 2, 3, 4, 6, 7, 8, 9, 10, 11, 12, 13, 28, 37, 101], [(1, ⟨[], [⟨[3], []⟩, ⟨[14], []⟩, ⟨[4], [0, 1]⟩, ⟨[16], [0, 1]⟩, ⟨[15, 17], []⟩, ⟨[18], []⟩, ⟨[19], []⟩, ⟨[3], [0, 1, 2, 3, 4, 5, 6]⟩, ⟨[21], [0, 1, 2, 3, 4, 5, 6]⟩, ⟨[22], [0, 1, 2, 3, 4, 5, 6]⟩, ⟨[20, 23], []⟩, ⟨[24], []⟩]⟩), (11, ⟨[], [⟨[10], []⟩, ⟨[47], []⟩, ⟨[3, 48], []⟩, ⟨[48, 49], []⟩, ⟨[13, 48], [2, 3]⟩, ⟨[48, 50, 51], []⟩, ⟨[48, 52], []⟩, ⟨[48, 53], []⟩, ⟨[3, 48], [2, 3, 4, 5, 6, 7]⟩, ⟨[48, 55], [2, 3, 4, 5, 6, 7]⟩, ⟨[4, 48], [2, 3, 4, 5, 6, 7, 8, 9]⟩, ⟨[48, 57], [2, 3, 4, 5, 6, 7, 8, 9]⟩, ⟨[48, 56, 58], [2, 3, 4, 5, 6, 7]⟩, ⟨[48, 59], [2, 3, 4, 5, 6, 7]⟩, ⟨[48, 60], [2, 3, 4, 5, 6, 7]⟩, ⟨[48, 54, 61], []⟩, ⟨[48, 62], []⟩, ⟨[63], []⟩]⟩), (12, ⟨[], [⟨[11], []⟩, ⟨[64], []⟩, ⟨[2, 65], []⟩, ⟨[13, 65], [2]⟩, ⟨[65, 66, 67], []⟩, ⟨[65, 68], []⟩, ⟨[69], []⟩, ⟨[3, 70], []⟩, ⟨[70, 71], []⟩, ⟨[13, 70], [7, 8]⟩, ⟨[70, 72, 73], []⟩, ⟨[70, 74], []⟩, ⟨[70, 75], []⟩, ⟨[4, 70], [7, 8, 9, 10, 11, 12]⟩, ⟨[70, 77], [7, 8, 9, 10, 11, 12]⟩, ⟨[70, 76, 78], []⟩, ⟨[70, 79], []⟩, ⟨[70, 80], []⟩, ⟨[81], []⟩, ⟨[13, 82], []⟩, ⟨[4, 82], [19]⟩, ⟨[82, 83, 84], []⟩, ⟨[82, 85], []⟩, ⟨[82, 86], []⟩, ⟨[82, 87], []⟩, ⟨[88], []⟩, ⟨[13, 89], []⟩, ⟨[4, 89], [26]⟩, ⟨[89, 90, 91], []⟩, ⟨[89, 92], []⟩, ⟨[3, 89], [26, 27, 28, 29]⟩, ⟨[89, 94], [26, 27, 28, 29]⟩, ⟨[89, 93, 95], []⟩, ⟨[89, 96], []⟩, ⟨[97], []⟩]⟩)]⟩
def ft98 : FT := ⟨[0, 1, 2, 3, 4, 8], []⟩
def ft99 : FT := ⟨[0, 2], []⟩
def ft100 : FT := ⟨[0, 2], []⟩
def ft101 : FT := ⟨[0, 1, 4, 5, 10, 12, 13, 14, 24], [(6, ⟨[], [⟨[0], []⟩, ⟨[5], [0]⟩, ⟨[16, 17], []⟩, ⟨[18], []⟩, ⟨[1], [0, 1, 2, 3]⟩, ⟨[5], [0, 1, 2, 3, 4]⟩, ⟨[20, 21], [0, 1, 2, 3]⟩, ⟨[22], [0, 1, 2, 3]⟩, ⟨[19, 23], []⟩]⟩)]⟩
def ft102 : FT := ⟨[0, 1, 4, 5, 7, 8, 9, 16], []⟩
def ft103 : FT := ⟨[0, 1, 2, 6], []⟩
def ft104 : FT := ⟨[0, 1, 2, 4], [(1, ⟨[], [⟨[1], []⟩, ⟨[5], []⟩, ⟨[6], []⟩, ⟨[7], []⟩, ⟨[8], []⟩, ⟨[0], [0, 1, 2, 3, 4]⟩, ⟨[9, 10], []⟩, ⟨[11], []⟩, ⟨[12], []⟩, ⟨[2], [0, 1, 2, 3, 4, 5, 6, 7, 8]⟩, ⟨[14], [0, 1, 2, 3, 4, 5, 6, 7, 8]⟩, ⟨[13, 15], []⟩, ⟨[16], []⟩]⟩)]⟩
def ft105 : FT := ⟨[0, 1, 2, 4], [(1, ⟨[], [⟨[1], []⟩, ⟨[5], []⟩, ⟨[6], []⟩, ⟨[7], []⟩, ⟨[0], [0, 1, 2, 3]⟩, ⟨[8, 9], []⟩, ⟨[10], []⟩, ⟨[11], []⟩, ⟨[12], []⟩, ⟨[1, 13], []⟩, ⟨[13, 14], []⟩, ⟨[13, 15], []⟩, ⟨[13, 16], []⟩, ⟨[13, 17], []⟩, ⟨[0, 13], [9, 10, 11, 12, 13]⟩, ⟨[13, 18, 19], []⟩, ⟨[13, 20], []⟩, ⟨[13, 21], []⟩, ⟨[2, 13], [9, 10, 11, 12, 13, 14, 15, 16, 17]⟩, ⟨[13, 23], [9, 10, 11, 12, 13, 14, 15, 16, 17]⟩, ⟨[13, 22, 24], []⟩, ⟨[13, 25], []⟩, ⟨[26], []⟩]⟩)]⟩
def ft106 : FT := ⟨[0, 1, 4], []⟩
def ft107 : FT := ⟨[0, 1, 2, 4], [(1, ⟨[], [⟨[0], []⟩, ⟨[1], [0]⟩, ⟨[5, 6], []⟩, ⟨[7], []⟩, ⟨[2], [0, 1, 2, 3]⟩, ⟨[9], [0, 1, 2, 3]⟩, ⟨[10], [0, 1, 2, 3]⟩, ⟨[11], [0, 1, 2, 3]⟩, ⟨[12], [0, 1, 2, 3]⟩, ⟨[8, 13], []⟩, ⟨[14], []⟩]⟩)]⟩
def ft108 : FT := ⟨[0, 1, 3], []⟩
def ft110 : FT := ⟨[0, 2], []⟩
def ft112 : FT := ⟨[0, 2], []⟩
def ft113 : FT := ⟨[0, 1, 4, 5, 7, 8, 9, 16], []⟩
def ft115 : FT := ⟨[0, 2], []⟩
end Go.PX
namespace Go.PX
open Go.Proofs
end Go.PX
namespace Go.PX
open Go.Proofs
def intsD (l : List Int) : D := .vs (l.map fun n => [i64 n])
end Go.PX
namespace Go.PX
open Go.Proofs
def inB (n lo hi : Int) : Bool := decide (lo ≤ n) && decide (n ≤ hi)
theorem fn118 (n lo hi : Int) : FnV Try.prog 103 [i64 n, i64 lo, i64 hi] (.bool (inB n lo hi)) := by
 refine fnV_of mixed tysOk Try.func103 rfl (ft := ft103) 3 (by decide +kernel) rfl fun {σ} Y s => ?_
 conv=>whnf
 refine brk_i (fun hb => ?_) (fun hb => ?_)
 ·conv=>whnf
  refine RetA_view 0 rfl ⟨⟨?_, rfl⟩, rfl⟩
  simp [packD, inB] at hb ⊢; simp [hb]
 ·conv=>whnf
  refine RetA_view 0 rfl ⟨⟨?_, rfl⟩, rfl⟩
  simp [packD, inB] at hb ⊢; omega
end Go.PX
namespace Go.PX
open Go.Proofs
def indexOf {α : Type} (p : α → Bool) : List α → Int → Int
 | [], _ => -1
 | x :: r, i => if p x then i else indexOf p r (i + 1)
theorem indexOf_any {α : Type} (p : α → Bool) : ∀ (l : List α) (i : Int), 0 ≤ i → decide (indexOf p l i ≥ 0) = l.any p
 | [], i, _ => by simp [indexOf]
 | x :: r, i, h => by
  simp only [indexOf, List.any_cons]
  split
  ·rename_i hp; simp [hp, h]
  ·rename_i hp
   rw [indexOf_any p r (i + 1) (by omega)]
   simp [hp]
theorem fn109 (l : List Int) (g : FuncId) (caps : List D) (p : Int → Bool) (hl : l.length < 4000000000000000000) (hp : ∀ x ∈ l, FnV Try.prog g (i64 x :: caps) (.bool (p x))) :
  FnV Try.prog 102 [intsD l, .clo g caps] (i64 (indexOf p l 0)) := by
 refine fnV_of mixed tysOk Try.func102 rfl (ft := ft102) 2 (by decide +kernel) rfl fun {σ} Y s => ?_
 conv=>whnf
 refine LoopA_p (T := tys) tysOk (by exact drawsB_spec mixed tysOk (by decide +kernel)) (α := Nat)
  (fun i => ⟨[(0, .d (intsD l)), (1, .d (.clo g caps)), (7, .d (i64 l.length)), (8, .d (i64 i))], [], s⟩) (fun i => i ≤ l.length ∧ indexOf p l 0 = indexOf p (l.drop i) i) (fun i => l.length - i) 0
  (Wk.sub ⟨rfl, rfl, by simp [PX.get], rfl, trivial⟩ trivial) (by simp) ?_
 rintro i ⟨hi, he⟩
 conv=>whnf
 refine brk_i (fun hb => ?_) (fun hb => ?_)
 ·have hb : i < l.length := by simpa using hb
  have hd : l.drop i = l[i] :: l.drop (i + 1) := List.drop_eq_getElem_cons hb
  rw [hd, indexOf] at he
  conv=>whnf
  refine elemK_i [i64 l[i]] (by simp [hb]) ?_
  conv=>whnf
  refine CallA_v (ds := i64 l[i] :: caps) (hp _ (List.getElem_mem hb)) rfl rfl ?_
  conv=>whnf
  refine brk_i (fun h1 => ?_) (fun h1 => ?_)
  ·conv=>whnf
   rw [if_pos h1] at he
   rw [he]
   exact RetA_view 0 rfl ⟨⟨rfl, rfl⟩, rfl⟩
  ·conv=>whnf
   rw [if_neg (by simp [h1])] at he
   refine arith_in (wrap_i64 (by omega)) ?_
   conv=>whnf
   exact ⟨i + 1, by omega, ⟨hb, by rw [he]; rfl⟩, Wk.sub ⟨rfl, rfl, rfl, rfl, trivial⟩ trivial⟩
 ·have hb : ¬ i < l.length := by simpa using hb
  conv=>whnf
  rw [List.drop_of_length_le (by omega)] at he
  rw [he]
  exact RetA_view 0 rfl ⟨⟨rfl, rfl⟩, rfl⟩
theorem fn86 (l : List Int) (g : FuncId) (caps : List D) (p : Int → Bool) (hl : l.length < 4000000000000000000) (hp : ∀ x ∈ l, FnV Try.prog g (i64 x :: caps) (.bool (p x))) :
  FnV Try.prog 86 [intsD l, .clo g caps] (.bool (l.any p)) := by
 refine fnV_of mixed tysOk Try.func86 rfl (ft := ft86) 2 (by decide +kernel) rfl fun {σ} Y s => ?_
 conv=>whnf
 refine CallA_v (fn109 l g caps p hl hp) rfl rfl ?_
 conv=>whnf
 refine RetA_view 0 rfl ⟨⟨?_, rfl⟩, rfl⟩
 rw [← indexOf_any p l 0 (by omega)]; rfl
end Go.PX
namespace Go.PX
open Go.Proofs
end Go.PX
namespace Go.PX
open Go.Proofs
end Go.PX
namespace Go.PX
open Go.Proofs
end Go.PX
namespace Go.PX
open Go.Proofs
end Go.PX
namespace Go.PX
open Go.Proofs
theorem fn19 (a b : List Int) (ha : a.length < 1000000) : FnV Try.prog 21 [intsD a, intsD b] (.bool (decide (a = b))) := by
 refine fnV_of mixed tysOk Try.func21 rfl (ft := ft21) 2 (by decide +kernel) (by rfl) fun {σ} Y st => ?_
 conv=>whnf
 refine brk_i (fun h0 => ?_) (fun h0 => ?_)
 ·have h0 : a.length ≠ b.length := by
   intro e; simp [e] at h0
  conv=>whnf
  rw [decide_eq_false (by rintro rfl; exact h0 rfl)]
  exact RetA_view 0 rfl ⟨⟨rfl, rfl⟩, rfl⟩
 ·have h0 : a.length = b.length := by
   have := h0
   simp at this; omega
  conv=>whnf
  refine LoopA_p (T := tys) tysOk (by exact drawsB_spec mixed tysOk (by decide +kernel)) (α := Nat)
   (fun i => ⟨[(0, .d (intsD a)), (1, .d (intsD b)), (5, .d (i64 i))], [], st⟩) (fun i => i ≤ a.length ∧ a.take i = b.take i) (fun i => a.length - i) 0
   (Wk.sub ⟨rfl, rfl, rfl, trivial⟩ trivial) (by simp) ?_
  rintro i ⟨hi, he⟩
  conv=>whnf
  refine brk_i (fun hc => ?_) (fun hc => ?_)
  ·have hc : i < a.length := by simpa using hc
   have hc' : i < b.length := by omega
   conv=>whnf
   refine elemK_i [i64 a[i]] (by simp [hc]) ?_
   conv=>whnf
   refine elemK_i [i64 b[i]] (by simp [hc']) ?_
   conv=>whnf
   refine brk_i (fun h1 => ?_) (fun h1 => ?_)
   ·conv=>whnf
    have h1 : a[i] ≠ b[i] := by simpa using h1
    rw [decide_eq_false (by rintro rfl; exact h1 rfl)]
    exact RetA_view 0 rfl ⟨⟨rfl, rfl⟩, rfl⟩
   ·have h1 : a[i] = b[i] := by simpa using h1
    conv=>whnf
    refine arith_in (wrap_i64 (by (try dsimp only); omega)) ?_
    conv=>whnf
    exact ⟨i + 1, by omega, ⟨hc, by rw [List.take_succ_eq_append_getElem hc, List.take_succ_eq_append_getElem hc', he, h1]⟩, Wk.sub ⟨rfl, rfl, rfl, trivial⟩ trivial⟩
  ·have hc : ¬ i < a.length := by simpa using hc
   conv=>whnf
   rw [List.take_of_length_le (by omega), List.take_of_length_le (by omega)] at he
   rw [decide_eq_true he]
   exact RetA_view 0 rfl ⟨⟨rfl, rfl⟩, rfl⟩
end Go.PX
namespace Go.PX
open Go.Proofs
end Go.PX
namespace Go.PX
open Go.Proofs
end Go.PX
namespace Go.PX
open Go.Proofs
def strsD (l : List ByteArray) : D := .vs (l.map fun s => [.str s])
theorem fn113 (l : List ByteArray) (x : ByteArray) (hl : l.length < 1000000) : FnV Try.prog 90 [strsD l, .str x] (i64 (indexOf (fun y => decide (y = x)) l 0)) := by
 refine fnV_of mixed tysOk Try.func90 rfl (ft := ft90) 2 (by decide +kernel) (by rfl) fun {σ} Y st => ?_
 conv=>whnf
 refine LoopA_p (T := tys) tysOk (by exact drawsB_spec mixed tysOk (by decide +kernel)) (α := Nat)
  (fun i => ⟨[(0, .d (strsD l)), (1, .d (.str x)), (5, .d (i64 i))], [], st⟩) (fun i => i ≤ l.length ∧ indexOf (fun y => decide (y = x)) l 0 = indexOf (fun y => decide (y = x)) (l.drop i) i) (fun i => l.length - i) 0
  (Wk.sub ⟨rfl, rfl, rfl, trivial⟩ trivial) (by simp) ?_
 rintro i ⟨hi, he⟩
 conv=>whnf
 refine brk_i (fun hb => ?_) (fun hb => ?_)
 ·have hb : i < l.length := by simpa using hb
  have hd : l.drop i = l[i] :: l.drop (i + 1) := List.drop_eq_getElem_cons hb
  rw [hd, indexOf] at he
  conv=>whnf
  refine elemK_i [.str l[i]] (by simp [hb]) ?_
  conv=>whnf
  refine brk_i (fun h1 => ?_) (fun h1 => ?_)
  ·conv=>whnf
   rw [if_pos h1] at he
   rw [he]
   exact RetA_view 0 rfl ⟨⟨rfl, rfl⟩, rfl⟩
  ·conv=>whnf
   rw [if_neg (by rw [h1]; simp)] at he
   refine arith_in (wrap_i64 (by (try dsimp only); omega)) ?_
   conv=>whnf
   exact ⟨i + 1, by omega, ⟨hb, by rw [he]; rfl⟩, Wk.sub ⟨rfl, rfl, rfl, trivial⟩ trivial⟩
 ·have hb : ¬ i < l.length := by simpa using hb
  conv=>whnf
  rw [List.drop_of_length_le (by omega)] at he
  rw [he]
  exact RetA_view 0 rfl ⟨⟨rfl, rfl⟩, rfl⟩
end Go.PX
namespace Go.PX
open Go.Proofs
def okAt (b : List UInt8) (i : Nat) (c : UInt8) : Bool :=
 (decide (97 ≤ c.toNat) && decide (c.toNat ≤ 122)) || (decide (c.toNat = 45) && decide (i ≠ 0) && decide (i + 1 ≠ b.length) && (match b[i - 1]? with
  | some p => decide (p.toNat ≠ 45)
  | none => false))
def nameL (b : List UInt8) : Nat → List UInt8 → Bool
 | _, [] => true
 | i, c :: r => okAt b i c && nameL b (i + 1) r
def nameF (s : ByteArray) : Bool := inB s.size 1 14 && nameL s.data.toList 0 s.data.toList
theorem fn112 (s : ByteArray) : FnV Try.prog 89 [.str s] (.bool (nameF s)) := by
 refine fnV_of mixed tysOk Try.func89 rfl (ft := ft89) 1 (by decide +kernel) (by rfl) fun {σ} Y st => ?_
 have hsz : s.size = s.data.toList.length := by simp
 conv=>whnf
 refine CallA_v (ds := [i64 s.size, i64 1, i64 14]) (fn118 _ _ _) rfl rfl ?_
 conv=>whnf
 refine brk_i (fun h0 => ?_) (fun h0 => ?_)
 ·conv=>whnf
  have : nameF s = false := by simp at h0; simp [nameF, h0]
  rw [this]
  exact RetA_view 0 rfl ⟨⟨rfl, rfl⟩, rfl⟩
 ·have h0 : inB s.size 1 14 = true := by simpa using h0
  have hlen : s.data.toList.length ≤ 14 := by
   simp only [inB, Bool.and_eq_true, decide_eq_true_eq] at h0; omega
  have hn : nameF s = nameL s.data.toList 0 s.data.toList := by simp [nameF, h0]
  rw [hn]
  conv=>whnf
  refine LoopA_p (T := tys) tysOk (by exact drawsB_spec mixed tysOk (by decide +kernel)) (α := Nat)
   (fun i => ⟨[(0, .d (.str s)), (3, .d (i64 i))], [], st⟩) (fun i => i ≤ s.data.toList.length ∧ nameL s.data.toList 0 s.data.toList = nameL s.data.toList i (s.data.toList.drop i)) (fun i => s.data.toList.length - i) 0
   (Wk.sub ⟨rfl, rfl, trivial⟩ trivial) (by simp) ?_
  rintro i ⟨hi, he⟩
  conv=>whnf
  refine brk_i (fun hc => ?_) (fun hc => ?_)
  ·have hc : i < s.data.toList.length := by
    have := of_decide_eq_true hc
    omega
   obtain ⟨c, hcc⟩ : ∃ c, s.data.toList[i]? = some c := ⟨_, List.getElem?_eq_getElem hc⟩
   have hd : s.data.toList.drop i = c :: s.data.toList.drop (i + 1) := by
    rw [List.drop_eq_getElem_cons hc]
    rw [List.getElem?_eq_getElem hc] at hcc
    rw [Option.some.inj hcc]
   rw [hd, nameL] at he
   have bad : okAt s.data.toList i c = false → RetA [V.d (.bool false)] [] st fun v h' s' => (v = V.d (.bool (nameL s.data.toList 0 s.data.toList)) ∧ h' = []) ∧ s' = st := by
    intro hb
    rw [he, hb]
    exact RetA_view 0 rfl ⟨⟨rfl, rfl⟩, rfl⟩
   have good : okAt s.data.toList i c = true → ∀ {st' : St σ}, Wk st' ⟨[(0, .d (.str s)), (3, .d (i64 ((i : Int) + 1)))], [], st⟩ → ∃ y, s.data.toList.length - y < s.data.toList.length - i ∧ (y ≤ s.data.toList.length ∧ nameL s.data.toList 0 s.data.toList = nameL s.data.toList y (s.data.toList.drop y)) ∧
     Wk st' ⟨[(0, .d (.str s)), (3, .d (i64 (y : Nat)))], [], st⟩ := by
    intro hb st' hw
    exact ⟨i + 1, by omega, ⟨hc, by rw [he, hb]; rfl⟩, by simpa using hw⟩
   conv=>whnf
   refine cellK_i c (by simpa using hcc) ?_
   conv=>whnf
   refine brk_i (fun h1 => ?_) (fun h1 => ?_)
   ·have h1 : 97 ≤ c.toNat := by
     have := of_decide_eq_true h1
     omega
    conv=>whnf
    refine cellK_i c (by simpa using hcc) ?_
    conv=>whnf
    refine brk_i (fun h2 => ?_) (fun h2 => ?_)
    ·have h2 : c.toNat ≤ 122 := by
      have := of_decide_eq_true h2
      omega
     conv=>whnf
     refine arith_in (wrap_i64 (by (try dsimp only); omega)) ?_
     conv=>whnf
     exact good (by simp [okAt, h1, h2]) (Wk.sub ⟨rfl, rfl, trivial⟩ trivial)
    ·have h2 : ¬ c.toNat ≤ 122 := by
      have := of_decide_eq_false h2
      omega
     conv=>whnf
     refine cellK_i c (by simpa using hcc) ?_
     conv=>whnf
     refine brk_i (fun k1 => ?_) (fun k1 => ?_)
     ·have k1 : c.toNat ≠ 45 := by
       have := k1
       simp at this; omega
      conv=>whnf
      exact bad (by simp [okAt, k1]; omega)
     ·have k1 : c.toNat = 45 := by
       have := k1
       simp at this; omega
      conv=>whnf
      refine brk_i (fun k2 => ?_) (fun k2 => ?_)
      ·have k2 : i = 0 := by
        have := of_decide_eq_true k2
        omega
       conv=>whnf
       exact bad (by simp [okAt, k1, k2])
      ·have k2 : i ≠ 0 := by
        have := of_decide_eq_false k2
        omega
       conv=>whnf
       refine arith_in (wrap_i64 (by (try dsimp only); omega)) ?_
       conv=>whnf
       refine brk_i (fun k3 => ?_) (fun k3 => ?_)
       ·have k3 : i + 1 = s.data.toList.length := by
         have := of_decide_eq_true k3
         omega
        conv=>whnf
        exact bad (by simp only [okAt, k1, k3]; simp)
       ·have k3 : i + 1 ≠ s.data.toList.length := by
         have := of_decide_eq_false k3
         omega
        obtain ⟨p, hp⟩ : ∃ p, s.data.toList[i - 1]? = some p := ⟨_, List.getElem?_eq_getElem (by omega)⟩
        conv=>whnf
        refine arith_in (wrap_i64 (by (try dsimp only); omega)) ?_
        conv=>whnf
        refine chk_i (by simp; omega) ?_
        conv=>whnf
        refine cellK_i p (by rw [show ((i : Int) - 1).toNat = i - 1 by omega]; exact hp) ?_
        conv=>whnf
        refine brk_i (fun k4 => ?_) (fun k4 => ?_)
        ·have k4 : p.toNat = 45 := by
          have := of_decide_eq_true k4
          omega
         conv=>whnf
         exact bad (by simp only [okAt, hp, k4, k1]; simp)
        ·have k4 : p.toNat ≠ 45 := by
          have := of_decide_eq_false k4
          omega
         conv=>whnf
         refine arith_in (wrap_i64 (by (try dsimp only); omega)) ?_
         conv=>whnf
         exact good (by simp only [okAt, hp, k1]; simp [k2, k4]; omega) (Wk.sub ⟨rfl, rfl, trivial⟩ trivial)
   ·have h1 : ¬ 97 ≤ c.toNat := by
     have := of_decide_eq_false h1
     omega
    conv=>whnf
    refine cellK_i c (by simpa using hcc) ?_
    conv=>whnf
    refine brk_i (fun k1 => ?_) (fun k1 => ?_)
    ·have k1 : c.toNat ≠ 45 := by
      have := k1
      simp at this; omega
     conv=>whnf
     exact bad (by simp [okAt, k1]; omega)
    ·have k1 : c.toNat = 45 := by
      have := k1
      simp at this; omega
     conv=>whnf
     refine brk_i (fun k2 => ?_) (fun k2 => ?_)
     ·have k2 : i = 0 := by
       have := of_decide_eq_true k2
       omega
      conv=>whnf
      exact bad (by simp [okAt, k1, k2])
     ·have k2 : i ≠ 0 := by
       have := of_decide_eq_false k2
       omega
      conv=>whnf
      refine arith_in (wrap_i64 (by (try dsimp only); omega)) ?_
      conv=>whnf
      refine brk_i (fun k3 => ?_) (fun k3 => ?_)
      ·have k3 : i + 1 = s.data.toList.length := by
        have := of_decide_eq_true k3
        omega
       conv=>whnf
       exact bad (by simp only [okAt, k1, k3]; simp)
      ·have k3 : i + 1 ≠ s.data.toList.length := by
        have := of_decide_eq_false k3
        omega
       obtain ⟨p, hp⟩ : ∃ p, s.data.toList[i - 1]? = some p := ⟨_, List.getElem?_eq_getElem (by omega)⟩
       conv=>whnf
       refine arith_in (wrap_i64 (by (try dsimp only); omega)) ?_
       conv=>whnf
       refine chk_i (by simp; omega) ?_
       conv=>whnf
       refine cellK_i p (by rw [show ((i : Int) - 1).toNat = i - 1 by omega]; exact hp) ?_
       conv=>whnf
       refine brk_i (fun k4 => ?_) (fun k4 => ?_)
       ·have k4 : p.toNat = 45 := by
         have := of_decide_eq_true k4
         omega
        conv=>whnf
        exact bad (by simp only [okAt, hp, k4, k1]; simp)
       ·have k4 : p.toNat ≠ 45 := by
         have := of_decide_eq_false k4
         omega
        conv=>whnf
        refine arith_in (wrap_i64 (by (try dsimp only); omega)) ?_
        conv=>whnf
        exact good (by simp only [okAt, hp, k1]; simp [k2, k4]; omega) (Wk.sub ⟨rfl, rfl, trivial⟩ trivial)
  ·have hc : ¬ i < s.data.toList.length := by
    have := of_decide_eq_false hc
    omega
   conv=>whnf
   rw [List.drop_of_length_le (by omega)] at he
   rw [he]
   exact RetA_view 0 rfl ⟨⟨rfl, rfl⟩, rfl⟩
end Go.PX
namespace Go.PX
open Go.Proofs
def freshF (x : ByteArray) (before : List ByteArray) : Int :=
 if nameF x then (if before.any fun y => decide (y = x) then 5 else 0) else 6
theorem fn91 (x : ByteArray) (l : List ByteArray) (hl : l.length < 1000000) : FnV Try.prog 61 [.str x, strsD l] (i64 (freshF x l)) := by
 refine fnV_of mixed tysOk Try.func61 rfl (ft := ft61) 2 (by decide +kernel) (by rfl) fun {σ} Y st => ?_
 conv=>whnf
 refine CallA_v (ds := [.str x]) (fn112 x) rfl rfl ?_
 conv=>whnf
 refine brk_i (fun h1 => ?_) (fun h1 => ?_)
 ·have h1 : nameF x = false := by simpa using h1
  conv=>whnf
  simp only [freshF, h1]
  exact RetA_view 0 rfl ⟨⟨rfl, rfl⟩, rfl⟩
 ·have h1 : nameF x = true := by simpa using h1
  conv=>whnf
  refine CallA_v (ds := [strsD l, .str x]) (fn113 l x hl) rfl rfl ?_
  conv=>whnf
  have hany := indexOf_any (fun y => decide (y = x)) l 0 (by omega)
  refine brk_i (fun h2 => ?_) (fun h2 => ?_)
  ·have h2 : (l.any fun y => decide (y = x)) = true := by rw [← hany]; exact h2
   conv=>whnf
   simp only [freshF, h1, h2]
   exact RetA_view 0 rfl ⟨⟨rfl, rfl⟩, rfl⟩
  ·have h2 : (l.any fun y => decide (y = x)) = false := by rw [← hany]; exact h2
   conv=>whnf
   simp only [freshF, h1, h2]
   exact RetA_view 0 rfl ⟨⟨rfl, rfl⟩, rfl⟩
end Go.PX
namespace Go.PX
open Go.Proofs
end Go.PX
namespace Go.PX
open Go.Proofs
end Go.PX
namespace Go.PX
open Go.Proofs
theorem FnV.cast {P : Program} {f : FuncId} {ds : List D} {r r' : D} (h : FnV P f ds r) (e : r = r') : FnV P f ds r' := by subst e; exact h
end Go.PX
namespace Go.PX
open Go.Proofs
end Go.PX
namespace Go.PX
open Go.Proofs
open Go
def nameGo : Nat → List UInt8 → Bool
 | last, [] => decide (last ≠ 45)
 | last, c :: r => if 97 ≤ c.toNat ∧ c.toNat ≤ 122 then nameGo c.toNat r else if c.toNat = 45 ∧ last ≠ 45 then nameGo 45 r else false
theorem nameGo_eq (b : List UInt8) : ∀ (r : List UInt8) (i last : Nat), r ≠ [] → r = b.drop i → (i = 0 → last = 45) → (∀ p, i ≠ 0 → b[i - 1]? = some p → last = p.toNat) → nameGo last r = nameL b i r
 | [], i, last, h, _, _, _ => absurd rfl h
 | c :: r, i, last, _, hd, h0, h1 => by
  have hlen : i + 1 + r.length = b.length := by
   have := congrArg List.length hd
   simp at this; omega
  have hget : b[i]? = some c := by
   have := congrArg (fun l => l[0]?) hd
   simpa using this.symm
  have hr : r = b.drop (i + 1) := by
   have := congrArg List.tail hd
   simpa using this
  have ih : ∀ last', last' = c.toNat → r ≠ [] → nameGo last' r = nameL b (i + 1) r := fun last' hl hne =>
   nameGo_eq b r (i + 1) last' hne hr (fun h => by omega) (fun p _ hp => by simp at hp; rw [hget] at hp; cases hp; exact hl)
  have hprev : i ≠ 0 → ∃ p, b[i - 1]? = some p ∧ last = p.toNat := fun hi => by
   have : i - 1 < b.length := by omega
   exact ⟨_, List.getElem?_eq_getElem this, h1 _ hi (List.getElem?_eq_getElem this)⟩
  simp only [nameGo, nameL, okAt]
  by_cases ha : 97 ≤ c.toNat ∧ c.toNat ≤ 122
  ·rw [if_pos ha]
   simp only [ha.1, ha.2, decide_true, Bool.and_self, Bool.true_or, Bool.true_and]
   by_cases hne : r = []
   ·subst hne
    simp [nameGo, nameL]; omega
   ·exact ih _ rfl hne
  ·rw [if_neg ha]
   have hf : (decide (97 ≤ c.toNat) && decide (c.toNat ≤ 122)) = false := by
    simp only [Bool.and_eq_false_iff, decide_eq_false_iff_not]; omega
   rw [hf, Bool.false_or]
   by_cases hc : c.toNat = 45
   ·by_cases hi : i = 0
    ·have := h0 hi
     simp [hc, hi, this]
    ·obtain ⟨p, hp, hl⟩ := hprev hi
     rw [hp]
     by_cases hpl : p.toNat = 45
     ·simp [hc, hl, hpl]
     ·by_cases hne : r = []
      ·have : i + 1 = b.length := by subst hne; simpa using hlen
       subst hne
       simp [hc, hl, hpl, nameGo, this]
      ·have : i + 1 ≠ b.length := by
        have := List.length_pos_iff.2 hne; omega
       rw [if_pos ⟨hc, by rw [hl]; exact hpl⟩, ih 45 hc.symm hne]
       simp [hc, hi, hpl, this]
   ·simp [hc]
theorem nameF_go (s : ByteArray) : nameF s = (decide (s.size ≤ 14) && nameGo 45 s.data.toList) := by
 have hsz : s.size = s.data.toList.length := by simp
 unfold nameF inB
 cases hb : s.data.toList with
 | nil =>
  have : s.size = 0 := by rw [hsz, hb]; rfl
  simp [this, nameGo]
 | cons c r =>
  rw [← hb, nameGo_eq s.data.toList s.data.toList 0 45 (by rw [hb]; simp) rfl (fun _ => rfl) (fun p h => absurd rfl h)]
  have h1 : 1 ≤ s.size := by rw [hsz, hb]; simp
  have e1 : decide ((1 : Int) ≤ (s.size : Int)) = true := by simp; omega
  have e2 : decide ((s.size : Int) ≤ 14) = decide (s.size ≤ 14) := by simp; omega
  rw [e1, e2]; simp
theorem decode_big (s : ByteArray) (i : Nat) (h : ¬ (s.get! (i + 0)).toNat < 128) : 128 ≤ (Utf8.decode s i).1 := by
 unfold Utf8.decode
 simp only [h, if_false]
 split
 ·split
  ·simp only; omega
  ·simp [Utf8.runeError]
 ·split
  ·split
   ·rename_i h1
    simp only [Bool.and_eq_true, decide_eq_true_eq] at h1
    simp only; omega
   ·simp [Utf8.runeError]
  ·split
   ·split
    ·rename_i h1
     simp only [Bool.and_eq_true, decide_eq_true_eq] at h1
     simp only; omega
    ·simp [Utf8.runeError]
   ·simp [Utf8.runeError]
end Go.PX
namespace Go.PX
open Go.Proofs
open Go
theorem fn47 (s : ByteArray) : FnV Try.prog 56 [.str s] (.bool (nameF s)) := by
 refine fnV_of mixed tysOk Try.func56 rfl (ft := ft56) 1 (by decide +kernel) (by rfl) fun {σ} Y st => ?_
 conv=>whnf
 refine LoopA_p (T := tys) tysOk (by exact drawsB_spec mixed tysOk (by decide +kernel)) (α := Nat × Nat)
  (fun x => ⟨[(0, .d (.str s)), (3, .d (.int .i32 x.2)), (7, .it 7)], [(7, .iter s x.1)], st⟩) (fun x => x.1 ≤ s.size ∧ nameF s = (decide (s.size ≤ 14) && nameGo x.2 (s.data.toList.drop x.1))) (fun x => s.size - x.1) (0, 45)
  (Wk.sub (by repeat' first|exact trivial|refine⟨?_,?_⟩|rfl|(simp only[List.length_map];rfl)|simp[PX.get]) ⟨(by first | rfl | (simp only [List.length_map]; rfl) | simp [PX.get]), trivial⟩) ⟨by simp, by rw [nameF_go]; rfl⟩ ?_
 rintro ⟨p, last⟩ ⟨hp, he⟩
 simp only at hp he
 have hsz : s.size = s.data.toList.length := by simp
 conv=>whnf
 refine brk_i (fun h1 => ?_) (fun h1 => ?_)
 ·have h1 : p < s.size := of_decide_eq_true h1
  have hd : s.data.toList.drop p = s[p] :: s.data.toList.drop (p + 1) := by
   rw [List.drop_eq_getElem_cons (by omega)]; rfl
  rw [hd, nameGo] at he
  refine ⟨?_⟩
  by_cases hb : s[p].toNat < 128
  ·rw [decode_ascii s p h1 hb]
   conv=>whnf
   refine brk_i (fun h2 => ?_) (fun h2 => ?_)
   ·have h2 : 97 ≤ s[p].toNat := by have := of_decide_eq_true h2; omega
    conv=>whnf
    refine brk_i (fun h3 => ?_) (fun h3 => ?_)
    ·have h3 : s[p].toNat ≤ 122 := by have := of_decide_eq_true h3; omega
     conv=>whnf
     rw [if_pos ⟨h2, h3⟩] at he
     exact ⟨(p + 1, s[p].toNat), by simp only; omega, ⟨h1, he⟩, (Wk.sub (by repeat' first|exact trivial|refine⟨?_,?_⟩|rfl|(simp only[List.length_map];rfl)|simp[PX.get]) ⟨(by first | rfl | (simp only [List.length_map]; rfl) | simp [PX.get]), trivial⟩)⟩
    ·have h3 : ¬ s[p].toNat ≤ 122 := by have := of_decide_eq_false h3; omega
     conv=>whnf
     rw [if_neg (by omega), if_neg (by omega)] at he
     refine brk_i (fun h4 => ?_) (fun h4 => ?_)
     ·conv=>whnf
      rw [he, Bool.and_false]
      exact RetA_view 0 rfl ⟨⟨rfl, rfl⟩, rfl⟩
     ·exact absurd h4 (by simp; omega)
   ·have h2 : ¬ 97 ≤ s[p].toNat := by have := of_decide_eq_false h2; omega
    conv=>whnf
    rw [if_neg (by omega)] at he
    refine brk_i (fun h4 => ?_) (fun h4 => ?_)
    ·have h4 : s[p].toNat ≠ 45 := by simp at h4; omega
     conv=>whnf
     rw [if_neg (by omega)] at he
     rw [he, Bool.and_false]
     exact RetA_view 0 rfl ⟨⟨rfl, rfl⟩, rfl⟩
    ·have h4 : s[p].toNat = 45 := by simp at h4; omega
     conv=>whnf
     refine brk_i (fun h5 => ?_) (fun h5 => ?_)
     ·have h5 : last = 45 := by have := of_decide_eq_true h5; omega
      conv=>whnf
      rw [if_neg (by omega)] at he
      rw [he, Bool.and_false]
      exact RetA_view 0 rfl ⟨⟨rfl, rfl⟩, rfl⟩
     ·have h5 : last ≠ 45 := by have := of_decide_eq_false h5; omega
      conv=>whnf
      rw [if_pos ⟨h4, h5⟩] at he
      exact ⟨(p + 1, 45), by simp only; omega, ⟨h1, he⟩, by rw [← h4]; exact (Wk.sub (by repeat' first|exact trivial|refine⟨?_,?_⟩|rfl|(simp only[List.length_map];rfl)|simp[PX.get]) ⟨(by first | rfl | (simp only [List.length_map]; rfl) | simp [PX.get]), trivial⟩)⟩
  ·have hbig := decode_big s p (by
    have e : s.get! (p + 0) = s[p]'h1 := by
     show s.get! p = _
     simp [ByteArray.get!, getElem!_pos, h1]
     rfl
    rw [e]; exact hb)
   generalize (Utf8.decode s p).1 = c at hbig
   generalize (Utf8.decode s p).2 = n
   rw [if_neg (by omega), if_neg (by omega)] at he
   conv=>whnf
   refine brk_i (fun h2 => ?_) (fun h2 => ?_)
   ·conv=>whnf
    refine brk_i (fun h3 => ?_) (fun h3 => ?_)
    ·have := of_decide_eq_true h3; omega
    ·conv=>whnf
     refine brk_i (fun h4 => ?_) (fun h4 => ?_)
     ·conv=>whnf
      rw [he, Bool.and_false]
      exact RetA_view 0 rfl ⟨⟨rfl, rfl⟩, rfl⟩
     ·exact absurd h4 (by simp; omega)
   ·have := of_decide_eq_false h2; omega
 ·have h1 : ¬ p < s.size := of_decide_eq_false h1
  conv=>whnf
  have hnil : s.data.toList.drop p = [] := List.drop_of_length_le (by omega)
  rw [hnil, nameGo] at he
  refine brk_i (fun h2 => ?_) (fun h2 => ?_)
  ·conv=>whnf
   refine RetA_view 0 rfl ⟨⟨?_, rfl⟩, rfl⟩
   have h2 : s.size ≤ 14 := by have := of_decide_eq_true h2; omega
   rw [he]
   show V.d (.bool (!decide ((last : Int) = 45))) = _
   simp [h2]; omega
  ·conv=>whnf
   refine RetA_view 0 rfl ⟨⟨?_, rfl⟩, rfl⟩
   have h2 : ¬ s.size ≤ 14 := by have := of_decide_eq_false h2; omega
   rw [he]
   simp [h2, packD]
end Go.PX
namespace Go.PX
open Go.Proofs
def firstE {α : Type} (f : List α → α → Int) : List α → List α → Int → Int × Int
 | _, [], _ => (0, 0)
 | b, x :: r, i => if f b x = 0 then firstE f (b ++ [x]) r (i + 1) else (i, f b x)
def tri (p : Int × Int × Int) : D := .tup [i64 p.1, i64 p.2.1, i64 p.2.2]
end Go.PX
namespace Go.PX
open Go.Proofs
end Go.PX
namespace Go.PX
open Go.Proofs
end Go.PX
namespace Go.PX
open Go.Proofs
end Go.PX
namespace Go.PX
open Go.Proofs
end Go.PX
namespace Go.PX
open Go.Proofs
end Go.PX
namespace Go.PX
open Go.Proofs
theorem firstE_all {α : Type} {f : List α → α → Int} : ∀ {l : List α} {b : List α} {i : Int}, (firstE f b l i).2 = 0 → ∀ x ∈ l, ∃ b', f b' x = 0
 | [], _, _, _, x, hx => by cases hx
 | y :: r, b, i, h, x, hx => by
  simp only [firstE] at h
  split at h
  ·rename_i h0
   rcases List.mem_cons.1 hx with rfl | hx
   ·exact ⟨b, h0⟩
   ·exact firstE_all h x hx
  ·rename_i h0; exact absurd h h0
theorem inB_iff {n lo hi : Int} : inB n lo hi = true ↔ lo ≤ n ∧ n ≤ hi := by
 simp [inB]
end Go.PX
namespace Go.PX
open Go.Proofs
def intsC (l : List Int) : List (List D) := l.map fun n => [i64 n]
end Go.PX
namespace Go.PX
open Go.Proofs
theorem fn98 (l : List Int) (v : Int) (hl : l.length < 4000000000000000000) : FnV Try.prog 113 [intsD l, i64 v] (i64 (indexOf (fun x => decide (v = x)) l 0)) := by
 refine fnV_of mixed tysOk Try.func113 rfl (ft := ft113) 2 (by decide +kernel) (by rfl) fun {σ} Y st => ?_
 conv=>whnf
 refine LoopA_i (T := tys) tysOk (by exact drawsB_spec mixed tysOk (by decide +kernel)) l (fun i (_ : Unit) => ⟨[(0, .d (intsD l)), (1, .d (i64 v)), (7, .d (i64 l.length)), (8, .d (i64 i))], [], st⟩) (fun i r _ => indexOf (fun x => decide (v = x)) l 0 = indexOf (fun x => decide (v = x)) r i) ()
  (Wk.sub (by repeat' first|exact trivial|refine⟨?_,?_⟩|rfl|(simp only[List.length_map];rfl)|simp[PX.get]) trivial) rfl ?_ ?_
 ·intro i x r _ hx hi hr he
  rw [indexOf] at he
  conv=>whnf
  refine brk_i (fun _ => ?_) (fun h => absurd hi (by simpa using h))
  conv=>whnf
  refine elemK_nat hx ?_
  conv=>whnf
  refine brk_i (fun h1 => ?_) (fun h1 => ?_)
  ·conv=>whnf
   rw [if_pos h1] at he
   rw [he]
   exact RetA_view 0 rfl ⟨⟨rfl, rfl⟩, rfl⟩
  ·conv=>whnf
   rw [if_neg (by simp [h1])] at he
   refine arith_in (wrap_i64 (by (try dsimp only); omega)) ?_
   conv=>whnf
   exact ⟨(), he, (Wk.sub (by repeat' first|exact trivial|refine⟨?_,?_⟩|rfl|(simp only[List.length_map];rfl)|simp[PX.get]) trivial)⟩
 ·intro _ he
  conv=>whnf
  refine brk_i (fun h => absurd h (by simp)) (fun _ => ?_)
  conv=>whnf
  rw [he]
  exact RetA_view 0 rfl ⟨⟨rfl, rfl⟩, rfl⟩
theorem fn63 (l : List Int) (v : Int) (hl : l.length < 4000000000000000000) : FnV Try.prog 106 [intsD l, i64 v] (.bool (decide (v ∈ l))) := by
 refine fnV_of mixed tysOk Try.func106 rfl (ft := ft106) 2 (by decide +kernel) (by rfl) fun {σ} Y st => ?_
 conv=>whnf
 refine CallA_v (fn98 l v hl) rfl rfl ?_
 conv=>whnf
 refine RetA_view 0 rfl ⟨⟨?_, rfl⟩, rfl⟩
 have h1 := indexOf_any (fun x => decide (v = x)) l 0 (by omega)
 have h2 : (l.any fun x => decide (v = x)) = decide (v ∈ l) := by
  rw [Bool.eq_iff_iff]; simp
 rw [← h2, ← h1]; rfl
end Go.PX
namespace Go.PX
open Go.Proofs
theorem wa87 (n lo hi : Int) : FnV Try.prog 87 [i64 n, .ref [i64 lo], .ref [i64 hi]] (.bool (decide (n < lo) || decide (n > hi))) := by
 refine fnV_of mixed tysOk Try.func87 rfl (ft := ft87) 3 (by decide +kernel) (by rfl) fun {σ} Y st => ?_
 conv=>whnf
 refine brk_i (fun hb => ?_) (fun hb => ?_)
 ·have hb : n < lo := by simpa using hb
  conv=>whnf
  refine RetA_view 0 rfl ⟨⟨?_, rfl⟩, rfl⟩
  simp_all [packD, hb]
 ·have hb : ¬ n < lo := by simpa using hb
  conv=>whnf
  refine RetA_view 0 rfl ⟨⟨?_, rfl⟩, rfl⟩
  simp [packD, hb]
theorem wa55 (lo hi : Int) (l : List Int) (hl : l.length < 4000000000000000000) : FnV Try.prog 55 [i64 lo, i64 hi, intsD l] (.bool (l.any fun n => decide (n < lo) || decide (n > hi))) := by
 refine fnV_of mixed tysOk Try.func55 rfl (ft := ft55) 3 (by decide +kernel) (by rfl) fun {σ} Y st => ?_
 conv=>whnf
 refine CallA_view (fn86 l 87 [.ref [i64 lo], .ref [i64 hi]] (fun n => decide (n < lo) || decide (n > hi)) hl fun x _ => wa87 x lo hi) rfl 1 rfl ?_
 conv=>whnf
 exact RetA_view 0 rfl ⟨⟨rfl, rfl⟩, rfl⟩
theorem outB (n lo hi : Int) : (decide (n < lo) || decide (n > hi)) = !inB n lo hi := by
 unfold inB
 rw [Bool.eq_iff_iff]
 simp
theorem wa55_1 (lo hi a : Int) : FnV Try.prog 55 [i64 lo, i64 hi, .vs [[i64 a]]] (.bool (!inB a lo hi)) := by
 exact FnV.cast (wa55 lo hi [a] (by simp)) (by simp [outB])
def ascF (many : Int) : Int → List Int → Int
 | _, [] => 0
 | last, i :: r => if inB i 0 (many - 1) then (if i ≤ last then 2 else ascF many i r) else 4
theorem wa59 (l : List Int) (many : Int) (hm : 0 ≤ many ∧ many ≤ 1000000) : FnV Try.prog 59 [intsD l, i64 many] (i64 (ascF many (-1) l)) := by
 refine fnV_of mixed tysOk Try.func59 rfl (ft := ft59) 2 (by decide +kernel) (by rfl) fun {σ} Y st => ?_
 conv=>whnf
 refine LoopA_i (T := tys) tysOk (by exact drawsB_spec mixed tysOk (by decide +kernel)) l (fun i (last : Int) => ⟨[(1, .d (i64 many)), (5, .d (i64 last)), (8, .d (intsD l)), (9, .d (i64 l.length)), (10, .d (i64 i))], [], st⟩) (fun i r last => ascF many (-1) l = ascF many last r ∧ (i : Int) ≤ last + 1 ∧ last < many ∧ -1 ≤ last) (-1) (Wk.sub (by repeat' first|exact trivial|refine⟨?_,?_⟩|rfl|(simp only[List.length_map];rfl)|simp[PX.get]) trivial) ⟨rfl, by omega, by omega, by omega⟩ ?_ ?_
 ·intro i x r last hx hi hr he
  obtain ⟨he, h1, h2, h3⟩ := he
  rw [ascF] at he
  conv=>whnf
  refine brk_i (fun _ => ?_) (fun h => absurd hi (by simpa using h))
  conv=>whnf
  refine elemK_nat hx ?_
  conv=>whnf
  refine arith_in (wrap_i64 (by (try dsimp only); omega)) ?_
  conv=>whnf
  refine CallA_view (wa55_1 0 (many - 1) x) rfl 1 rfl ?_
  conv=>whnf
  refine brk_i (fun h4 => ?_) (fun h4 => ?_)
  ·have h4 : inB x 0 (many - 1) = false := by simpa using h4
   conv=>whnf
   rw [he, h4]
   exact RetA_view 0 rfl ⟨⟨rfl, rfl⟩, rfl⟩
  have h4 : inB x 0 (many - 1) = true := by simpa using h4
  rw [h4, if_pos rfl] at he
  rw [inB_iff] at h4
  conv=>whnf
  refine brk_i (fun h5 => ?_) (fun h5 => ?_)
  ·have h5 : x ≤ last := by simpa using h5
   conv=>whnf
   rw [he, if_pos h5]
   exact RetA_view 0 rfl ⟨⟨rfl, rfl⟩, rfl⟩
  have h5 : ¬ x ≤ last := by simpa using h5
  rw [if_neg h5] at he
  conv=>whnf
  refine arith_in (wrap_i64 (by (try dsimp only); omega)) ?_
  conv=>whnf
  exact ⟨x, ⟨he, by omega, by omega, by omega⟩, (Wk.sub (by repeat' first|exact trivial|refine⟨?_,?_⟩|rfl|(simp only[List.length_map];rfl)|simp[PX.get]) trivial)⟩
 ·intro last he
  conv=>whnf
  refine brk_i (fun h => absurd h (by simp)) (fun _ => ?_)
  conv=>whnf
  rw [he.1]
  exact RetA_view 0 rfl ⟨⟨rfl, rfl⟩, rfl⟩
structure Man where
 name : ByteArray
 kind : Int
 no : List Int
 deriving DecidableEq
structure Slot where
 men : Int
 least : Int
 deriving DecidableEq
structure WCase where
 men : List Man
 slots : List Slot
 run : Int
 rest : Int
 deriving DecidableEq
def Man.cells (m : Man) : List D := [.str m.name, i64 m.kind, intsD m.no]
def Slot.cells (s : Slot) : List D := [i64 s.men, i64 s.least]
def mansD (l : List Man) : D := .vs (l.map Man.cells)
def slotsD (l : List Slot) : D := .vs (l.map Slot.cells)
def WCase.cells (c : WCase) : List D := [mansD c.men, slotsD c.slots, i64 c.run, i64 c.rest]
def WCase.d (c : WCase) : D := .agg c.cells
def rotaD (l : List (List Int)) : D := .vs (l.map fun r => [intsD r])
theorem wa58 (y x : Man) : FnV Try.prog 58 [.agg y.cells, .ref x.cells] (.bool (decide (y.name = x.name))) := by
 refine fnV_of mixed tysOk Try.func58 rfl (ft := ft58) 2 (by decide +kernel) (by rfl) fun {σ} Y st => ?_
 conv=>whnf
 exact RetA_view 0 rfl ⟨⟨rfl, rfl⟩, rfl⟩
theorem wa88 (l : List Man) (g : FuncId) (caps : List D) (p : Man → Bool) (hl : l.length < 4000000000000000000) (hp : ∀ x ∈ l, FnV Try.prog g (.agg x.cells :: caps) (.bool (p x))) :
  FnV Try.prog 88 [mansD l, .clo g caps] (i64 (indexOf p l 0)) := by
 refine fnV_of mixed tysOk Try.func88 rfl (ft := ft88) 2 (by decide +kernel) (by rfl) fun {σ} Y st => ?_
 conv=>whnf
 refine LoopA_i (T := tys) tysOk (by exact drawsB_spec mixed tysOk (by decide +kernel)) l (fun i (_ : Unit) => ⟨[(0, .d (mansD l)), (1, .d (.clo g caps)), (7, .d (i64 l.length)), (8, .d (i64 i))], [], st⟩) (fun i r _ => indexOf p l 0 = indexOf p r i) () (Wk.sub (by repeat' first|exact trivial|refine⟨?_,?_⟩|rfl|(simp only[List.length_map];rfl)|simp[PX.get]) trivial) rfl ?_ ?_
 ·intro i x r _ hx hi hr he
  rw [indexOf] at he
  conv=>whnf
  refine brk_i (fun _ => ?_) (fun h => absurd hi (by simpa using h))
  conv=>whnf
  refine elemK_nat hx ?_
  conv=>whnf
  refine CallA_v (hp x (List.mem_of_getElem? hx)) rfl rfl ?_
  conv=>whnf
  refine brk_i (fun h1 => ?_) (fun h1 => ?_)
  ·conv=>whnf
   rw [he, if_pos h1]
   exact RetA_view 0 rfl ⟨⟨rfl, rfl⟩, rfl⟩
  ·rw [if_neg (by simp [h1])] at he
   conv=>whnf
   refine arith_in (wrap_i64 (by (try dsimp only); omega)) ?_
   conv=>whnf
   exact ⟨(), he, (Wk.sub (by repeat' first|exact trivial|refine⟨?_,?_⟩|rfl|(simp only[List.length_map];rfl)|simp[PX.get]) trivial)⟩
 ·intro _ he
  conv=>whnf
  refine brk_i (fun h => absurd h (by simp)) (fun _ => ?_)
  conv=>whnf
  rw [he]
  exact RetA_view 0 rfl ⟨⟨rfl, rfl⟩, rfl⟩
theorem wa57 (l : List Man) (g : FuncId) (caps : List D) (p : Man → Bool) (hl : l.length < 4000000000000000000) (hp : ∀ x ∈ l, FnV Try.prog g (.agg x.cells :: caps) (.bool (p x))) :
  FnV Try.prog 57 [mansD l, .clo g caps] (.bool (l.any p)) := by
 refine fnV_of mixed tysOk Try.func57 rfl (ft := ft57) 2 (by decide +kernel) (by rfl) fun {σ} Y st => ?_
 conv=>whnf
 refine CallA_v (wa88 l g caps p hl hp) rfl rfl ?_
 conv=>whnf
 refine RetA_view 0 rfl ⟨⟨?_, rfl⟩, rfl⟩
 rw [← indexOf_any p l 0 (by omega)]; rfl
def manF (slots : Int) (b : List Man) (x : Man) : Int :=
 if nameF x.name then (if b.any (fun y => decide (y.name = x.name)) then 5 else if inB x.kind 0 3 then ascF slots (-1) x.no else 7) else 6
def slotF (_ : List Slot) (s : Slot) : Int := if inB s.men 1 2 && inB s.least 0 3 then 0 else 7
def checkM (c : WCase) : Int × Int × Int :=
 let p := firstE (manF c.slots.length) [] c.men 0
 if p.2 = 0 then (0, 0, 0) else (3, p.1, p.2)
def checkW (c : WCase) : Int × Int × Int :=
  if inB c.men.length 1 5 && inB c.slots.length 1 6 then
    (if inB c.run 1 3 && inB c.rest 1 3 then
      (let p := firstE slotF [] c.slots 0
       if p.2 = 0 then checkM c else (2, p.1, p.2))
    else (1, 0, 7))
  else (1, 0, 3)
end Go.PX
namespace Go.PX
open Go.Proofs
theorem wa15 (c : WCase) : FnV Try.prog 15 [c.d] (tri (checkW c)) := by
 refine fnV_of mixed tysOk Try.func15 rfl (ft := ft15) 1 (by decide +kernel) (by rfl) fun {σ} Y st => ?_
 conv=>whnf
 unfold checkW
 refine CallA_view (wa55_1 1 5 _) rfl 1 rfl ?_
 conv=>whnf
 refine brk_i (fun h0 => ?_) (fun h0 => ?_)
 ·have h0 : inB c.men.length 1 5 = false := by simpa using h0
  conv=>whnf
  rw [h0]
  exact RetA_view 0 rfl ⟨⟨rfl, rfl⟩, rfl⟩
 have h0 : inB c.men.length 1 5 = true := by simpa using h0
 conv=>whnf
 refine CallA_view (wa55_1 1 6 _) rfl 1 rfl ?_
 conv=>whnf
 refine brk_i (fun h1 => ?_) (fun h1 => ?_)
 ·have h1 : inB c.slots.length 1 6 = false := by simpa using h1
  conv=>whnf
  rw [h0, h1]
  exact RetA_view 0 rfl ⟨⟨rfl, rfl⟩, rfl⟩
 have h1 : inB c.slots.length 1 6 = true := by simpa using h1
 rw [h0, h1]
 rw [inB_iff] at h0 h1
 conv=>whnf
 refine CallA_view (wa55_1 1 3 _) rfl 1 rfl ?_
 conv=>whnf
 refine brk_i (fun h2 => ?_) (fun h2 => ?_)
 ·have h2 : inB c.run 1 3 = false := by simpa using h2
  conv=>whnf
  rw [h2]
  exact RetA_view 0 rfl ⟨⟨rfl, rfl⟩, rfl⟩
 have h2 : inB c.run 1 3 = true := by simpa using h2
 conv=>whnf
 refine CallA_view (wa55_1 1 3 _) rfl 1 rfl ?_
 conv=>whnf
 refine brk_i (fun h3 => ?_) (fun h3 => ?_)
 ·have h3 : inB c.rest 1 3 = false := by simpa using h3
  conv=>whnf
  rw [h2, h3]
  exact RetA_view 0 rfl ⟨⟨rfl, rfl⟩, rfl⟩
 have h3 : inB c.rest 1 3 = true := by simpa using h3
 rw [h2, h3]
 simp only [Bool.and_self, if_true]
 conv=>whnf
 refine LoopA_i (T := tys) tysOk (by exact drawsB_spec mixed tysOk (by decide +kernel)) c.slots (fun i (_ : Unit) => ⟨[(1, .ptr 1 0), (34, .d (slotsD c.slots)), (35, .d (i64 c.slots.length)), (36, .d (i64 i))], [(1, .box (.dd c.cells))], st⟩) (fun i r _ => firstE slotF [] c.slots 0 = firstE slotF (c.slots.take i) r i) () (Wk.sub (by repeat' first|exact trivial|refine⟨?_,?_⟩|rfl|(simp only[List.length_map];rfl)|simp[PX.get]) ⟨(by first | rfl | (simp only [List.length_map]; rfl) | simp [PX.get]), trivial⟩) rfl ?_ ?_
 ·intro i x r _ hx hi hr he
  rw [firstE] at he
  have htk : c.slots.take (i + 1) = c.slots.take i ++ [x] := by rw [List.take_succ, hx]; rfl
  conv=>whnf
  refine brk_i (fun _ => ?_) (fun h => absurd hi (by simpa using h))
  conv=>whnf
  refine elemK_nat hx ?_
  conv=>whnf
  refine CallA_view (wa55_1 1 2 _) rfl 1 rfl ?_
  conv=>whnf
  refine brk_i (fun h4 => ?_) (fun h4 => ?_)
  ·have h4 : inB x.men 1 2 = false := by simpa using h4
   conv=>whnf
   rw [he]
   simp only [slotF, h4]
   exact RetA_view 0 rfl ⟨⟨rfl, rfl⟩, rfl⟩
  have h4 : inB x.men 1 2 = true := by simpa using h4
  conv=>whnf
  refine CallA_view (wa55_1 0 3 _) rfl 1 rfl ?_
  conv=>whnf
  refine brk_i (fun h5 => ?_) (fun h5 => ?_)
  ·have h5 : inB x.least 0 3 = false := by simpa using h5
   conv=>whnf
   rw [he]
   simp only [slotF, h4, h5]
   exact RetA_view 0 rfl ⟨⟨rfl, rfl⟩, rfl⟩
  have h5 : inB x.least 0 3 = true := by simpa using h5
  have hs : slotF (c.slots.take i) x = 0 := by simp [slotF, h4, h5]
  rw [if_pos hs, ← htk] at he
  conv=>whnf
  refine arith_in (wrap_i64 (by (try dsimp only); omega)) ?_
  conv=>whnf
  exact ⟨(), he, (Wk.sub (by repeat' first|exact trivial|refine⟨?_,?_⟩|rfl|(simp only[List.length_map];rfl)|simp[PX.get]) ⟨(by first | rfl | (simp only [List.length_map]; rfl) | simp [PX.get]), trivial⟩)⟩
 intro _ he
 rw [List.take_length, firstE] at he
 rw [he]
 simp only [if_true]
 conv=>whnf
 refine brk_i (fun h => absurd h (by simp)) (fun _ => ?_)
 conv=>whnf
 unfold checkM
 refine LoopA_i (T := tys) tysOk (by exact drawsB_spec mixed tysOk (by decide +kernel)) c.men (fun i (_ : Unit) => ⟨[(1, .ptr 1 0), (54, .d (mansD c.men)), (55, .d (i64 c.men.length)), (56, .d (i64 i))], [(1, .box (.dd c.cells))], st⟩) (fun i r _ => firstE (manF c.slots.length) [] c.men 0 = firstE (manF c.slots.length) (c.men.take i) r i) () (Wk.sub (by repeat' first|exact trivial|refine⟨?_,?_⟩|rfl|(simp only[List.length_map];rfl)|simp[PX.get]) ⟨(by first | rfl | (simp only [List.length_map]; rfl) | simp [PX.get]), trivial⟩) rfl ?_ ?_
 ·intro i x r _ hx hi hr he
  rw [firstE] at he
  have htk : c.men.take (i + 1) = c.men.take i ++ [x] := by rw [List.take_succ, hx]; rfl
  conv=>whnf
  refine brk_i (fun _ => ?_) (fun h => absurd hi (by simpa using h))
  conv=>whnf
  refine elemK_nat hx ?_
  conv=>whnf
  refine CallA_v (fn47 x.name) rfl rfl ?_
  conv=>whnf
  refine brk_i (fun h4 => ?_) (fun h4 => ?_)
  ·conv=>whnf
   have h4 : nameF x.name = false := by simpa using h4
   rw [he]
   simp only [manF, h4]
   exact RetA_view 0 rfl ⟨⟨rfl, rfl⟩, rfl⟩
  have h4 : nameF x.name = true := by simpa using h4
  conv=>whnf
  refine chk_i (by simp; omega) ?_
  conv=>whnf
  refine chk_i (by cases c.men <;> rfl) ?_
  conv=>whnf
  refine CallA_view (ds := [mansD (c.men.take i), .clo 58 [.ref x.cells]]) (wa57 (c.men.take i) 58 [.ref x.cells] (fun y => decide (y.name = x.name)) (by simp; omega) fun y _ => wa58 y x) rfl 1 (by show some _ = some _; simp [mansD, List.map_take]; rfl) ?_
  conv=>whnf
  refine brk_i (fun h5 => ?_) (fun h5 => ?_)
  ·conv=>whnf
   rw [he]
   simp only [manF, h4, h5]
   exact RetA_view 0 rfl ⟨⟨rfl, rfl⟩, rfl⟩
  conv=>whnf
  refine CallA_view (wa55_1 0 3 _) rfl 1 rfl ?_
  conv=>whnf
  refine brk_i (fun h6 => ?_) (fun h6 => ?_)
  ·have h6 : inB x.kind 0 3 = false := by simpa using h6
   conv=>whnf
   rw [he]
   simp only [manF, h4, h5, h6]
   exact RetA_view 0 rfl ⟨⟨rfl, rfl⟩, rfl⟩
  have h6 : inB x.kind 0 3 = true := by simpa using h6
  conv=>whnf
  refine CallA_v (wa59 x.no _ (by simp only [List.length_map]; omega)) rfl rfl ?_
  generalize hF : ascF (List.map Slot.cells c.slots).length (-1) x.no = E
  rw [List.length_map] at hF
  conv=>whnf
  refine brk_i (fun h7 => ?_) (fun h7 => ?_)
  ·have h7 : E ≠ 0 := by simpa using h7
   conv=>whnf
   rw [he]
   have : manF c.slots.length (c.men.take i) x = E := by simp [manF, h4, h5, h6, hF]
   rw [this, if_neg h7]
   dsimp only
   rw [if_neg h7]
   exact RetA_view 0 rfl ⟨⟨rfl, rfl⟩, rfl⟩
  have h7 : E = 0 := by simpa using h7
  have hs : manF c.slots.length (c.men.take i) x = 0 := by simp [manF, h4, h5, h6, hF, h7]
  rw [if_pos hs, ← htk] at he
  conv=>whnf
  refine arith_in (wrap_i64 (by (try dsimp only); omega)) ?_
  conv=>whnf
  exact ⟨(), he, (Wk.sub (by repeat' first|exact trivial|refine⟨?_,?_⟩|rfl|(simp only[List.length_map];rfl)|simp[PX.get]) ⟨(by first | rfl | (simp only [List.length_map]; rfl) | simp [PX.get]), trivial⟩)⟩
 intro _ he
 rw [List.take_length, firstE] at he
 rw [he]
 conv=>whnf
 refine brk_i (fun h => absurd h (by simp)) (fun _ => ?_)
 conv=>whnf
 exact RetA_view 0 rfl ⟨⟨rfl, rfl⟩, rfl⟩
end Go.PX
namespace Go.PX
open Go.Proofs Go.RowKit Go.ChangeShapes
theorem c3 : Try.prog.cellsOf 3 = 1 := by kernel_rfl
theorem c9 : Try.prog.cellsOf 9 = 1 := by kernel_rfl
theorem c32 : Try.prog.cellsOf 32 = 1 := by kernel_rfl
theorem c75 : Try.prog.cellsOf 75 = 3 := by kernel_rfl
theorem c73 : Try.prog.cellsOf 73 = 2 := by kernel_rfl
theorem c22 : Try.prog.cellsOf 22 = 1 := by kernel_rfl
theorem c23 : Try.prog.cellsOf 23 = 1 := by kernel_rfl
theorem c25 : Try.prog.cellsOf 25 = 4 := by kernel_rfl
section
variable (W : World)
theorem rdInt : Rd Try.prog W 3 fun ds => ∃ n, ds = [i64 n] := Rd.int Try.underlying3
theorem rdStr : Rd Try.prog W 9 fun ds => ∃ s, ds = [.str s] := Rd.str Try.underlying9
theorem rdInts : Rd Try.prog W 32 fun ds => ∃ l : List Int, ds = [intsD l] :=
 (Rd.slice Try.underlying32 c3 (by omega) (rdInt W)).mono fun ds h => by
  obtain ⟨es, rfl, he⟩ := h
  obtain ⟨l, rfl⟩ := list_of (f := fun n => [i64 n]) (fun _ h => h) he
  exact ⟨l, rfl⟩
theorem rdMan : Rd Try.prog W 75 fun ds => ∃ m : Man, ds = m.cells :=
 (Rd.struct Try.underlying75 c75 (.cons rfl c9 (rdStr W) (.cons rfl c3 (rdInt W) (.cons rfl c32 (rdInts W) (.nil _))))).mono fun ds h => by
  obtain ⟨_, _, rfl, ⟨a, rfl⟩, _, _, rfl, ⟨b, rfl⟩, _, _, rfl, ⟨c, rfl⟩, rfl⟩ := h
  exact ⟨⟨a, b, c⟩, rfl⟩
theorem rdSlot : Rd Try.prog W 73 fun ds => ∃ s : Slot, ds = s.cells :=
 (Rd.struct Try.underlying73 c73 (.cons rfl c3 (rdInt W) (.cons rfl c3 (rdInt W) (.nil _)))).mono fun ds h => by
  obtain ⟨_, _, rfl, ⟨a, rfl⟩, _, _, rfl, ⟨b, rfl⟩, rfl⟩ := h
  exact ⟨⟨a, b⟩, rfl⟩
theorem rdMen : Rd Try.prog W 22 fun ds => ∃ l : List Man, ds = [mansD l] :=
 (Rd.slice Try.underlying22 c75 (by omega) (rdMan W)).mono fun ds h => by
  obtain ⟨es, rfl, he⟩ := h
  obtain ⟨l, rfl⟩ := list_of (f := Man.cells) (fun _ h => h) he
  exact ⟨l, rfl⟩
theorem rdSlots : Rd Try.prog W 23 fun ds => ∃ l : List Slot, ds = [slotsD l] :=
 (Rd.slice Try.underlying23 c73 (by omega) (rdSlot W)).mono fun ds h => by
  obtain ⟨es, rfl, he⟩ := h
  obtain ⟨l, rfl⟩ := list_of (f := Slot.cells) (fun _ h => h) he
  exact ⟨l, rfl⟩
theorem rdCase : Rd Try.prog W 25 fun ds => ∃ c : WCase, ds = c.cells :=
 (Rd.struct Try.underlying25 c25 (.cons rfl c22 (rdMen W) (.cons rfl c23 (rdSlots W) (.cons rfl c3 (rdInt W) (.cons rfl c3 (rdInt W) (.nil _)))))).mono fun ds h => by
  obtain ⟨_, _, rfl, ⟨a, rfl⟩, _, _, rfl, ⟨b, rfl⟩, _, _, rfl, ⟨c, rfl⟩, _, _, rfl, ⟨d, rfl⟩, rfl⟩ := h
  exact ⟨⟨a, b, c, d⟩, rfl⟩
end
end Go.PX
namespace Go.PX
open Go.Proofs
def firstErr {α : Type} (f : α → Int) : List α → Int
 | [] => 0
 | x :: r => if f x = 0 then firstErr f r else f x
def entE (c : WCase) (rota : List (List Int)) : Int :=
 if (checkW c).2.2 = 0 then (if rota.length > 40 then 3 else firstErr (ascF c.men.length (-1)) rota) else (checkW c).2.2
def crewCells (c : WCase) (set : Int) : List D := [mansD c.men, slotsD c.slots, i64 c.run, i64 c.rest, i64 set]
def crewD (c : WCase) (set : Int) : D := .ref (crewCells c set)
def allMen (c : WCase) : Int := 2 ^ c.men.length - 1
structure WR (c : WCase) : Prop where
 men : 1 ≤ c.men.length ∧ c.men.length ≤ 5
 slots : 1 ≤ c.slots.length ∧ c.slots.length ≤ 6
 run : 1 ≤ c.run ∧ c.run ≤ 3
 rest : 1 ≤ c.rest ∧ c.rest ≤ 3
 slot : ∀ s ∈ c.slots, (1 ≤ s.men ∧ s.men ≤ 2) ∧ (0 ≤ s.least ∧ s.least ≤ 3)
 man : ∀ m ∈ c.men, (0 ≤ m.kind ∧ m.kind ≤ 3) ∧ ascF c.slots.length (-1) m.no = 0
 zero : checkW c = (0, 0, 0)
theorem wR {c : WCase} (h : (checkW c).2.2 = 0) : WR c := by
 have hz := h
 unfold checkW at h
 split at h
 case isFalse => cases h
 rename_i h0
 split at h
 case isFalse => cases h
 rename_i h1
 simp only [Bool.and_eq_true, inB_iff] at h0 h1
 dsimp only at h
 by_cases h2 : (firstE slotF [] c.slots 0).2 = 0
 ·rw [if_pos h2] at h
  unfold checkM at h
  dsimp only at h
  by_cases h3 : (firstE (manF c.slots.length) [] c.men 0).2 = 0
  ·have hs := firstE_all h2
   have hm := firstE_all h3
   refine ⟨by omega, by omega, h1.1, h1.2, fun s hs' => ?_, fun m hm' => ?_, ?_⟩
   ·obtain ⟨b, hb⟩ := hs s hs'
    unfold slotF at hb
    split at hb
    case isFalse => cases hb
    rename_i h4
    simpa only [Bool.and_eq_true, inB_iff] using h4
   ·obtain ⟨b, hb⟩ := hm m hm'
    unfold manF at hb
    split at hb
    case isFalse => cases hb
    split at hb
    ·cases hb
    split at hb
    case isFalse => cases hb
    rename_i h4
    exact ⟨by simpa only [inB_iff] using h4, hb⟩
   ·simp [checkW, checkM, h2, h3, inB_iff, h0, h1]
  ·rw [if_neg h3] at h; exact absurd h h3
 ·rw [if_neg h2] at h; exact absurd h h2
theorem wa63 (c : WCase) (rota : List (List Int)) : FnV Try.prog 63 [c.d, rotaD rota] (.tup [if entE c rota = 0 then crewD c (allMen c) else .nilp, i64 (entE c rota)]) := by
 refine fnV_of mixed tysOk Try.func63 rfl (ft := ft63) 2 (by decide +kernel) (by rfl) fun {σ} Y st => ?_
 conv=>whnf
 refine CallA_v (wa15 c) rfl rfl ?_
 conv=>whnf
 refine brk_i (fun h0 => ?_) (fun h0 => ?_)
 ·have h0 : (checkW c).2.2 ≠ 0 := by simpa using h0
  conv=>whnf
  have : entE c rota = (checkW c).2.2 := by simp [entE, h0]
  rw [this, if_neg h0]
  exact RetA_view 0 rfl ⟨⟨rfl, rfl⟩, rfl⟩
 have h0 : (checkW c).2.2 = 0 := by simpa using h0
 have hR := wR h0
 conv=>whnf
 refine brk_i (fun h1 => ?_) (fun h1 => ?_)
 ·have h1 : rota.length > 40 := by simp at h1; omega
  conv=>whnf
  have : entE c rota = 3 := by simp [entE, h0, h1]
  rw [this]
  exact RetA_view 0 rfl ⟨⟨rfl, rfl⟩, rfl⟩
 have h1 : ¬ rota.length > 40 := by simp at h1; omega
 have hE : entE c rota = firstErr (ascF c.men.length (-1)) rota := by simp [entE, h0, h1]
 rw [hE]
 conv=>whnf
 refine LoopA_i (T := tys) tysOk (by exact drawsB_spec mixed tysOk (by decide +kernel)) rota (fun i (_ : Unit) => ⟨[(2, .ptr 2 0), (25, .d (rotaD rota)), (26, .d (i64 rota.length)), (27, .d (i64 i))], [(2, .box (.dd c.cells))], st⟩) (fun i r _ => firstErr (ascF c.men.length (-1)) rota = firstErr (ascF c.men.length (-1)) r) () (Wk.sub (by repeat' first|exact trivial|refine⟨?_,?_⟩|rfl|(simp only[List.length_map];rfl)|simp[PX.get]) ⟨(by first | rfl | (simp only [List.length_map]; rfl) | simp [PX.get]), trivial⟩) rfl ?_ ?_
 ·intro i x r _ hx hi hr he
  rw [firstErr] at he
  have hm := hR.men
  conv=>whnf
  refine brk_i (fun _ => ?_) (fun h => absurd hi (by simpa using h))
  conv=>whnf
  refine elemK_nat hx ?_
  conv=>whnf
  refine CallA_v (wa59 x _ (by simp only [List.length_map]; omega)) rfl rfl ?_
  generalize hF : ascF (List.map Man.cells c.men).length (-1) x = E
  rw [List.length_map] at hF
  conv=>whnf
  refine brk_i (fun h7 => ?_) (fun h7 => ?_)
  ·have h7 : E ≠ 0 := by simpa using h7
   conv=>whnf
   rw [he, hF, if_neg h7, if_neg h7]
   exact RetA_view 0 rfl ⟨⟨rfl, rfl⟩, rfl⟩
  have h7 : E = 0 := by simpa using h7
  rw [hF, if_pos h7] at he
  conv=>whnf
  refine arith_in (wrap_i64 (by (try dsimp only); omega)) ?_
  conv=>whnf
  exact ⟨(), he, (Wk.sub (by repeat' first|exact trivial|refine⟨?_,?_⟩|rfl|(simp only[List.length_map];rfl)|simp[PX.get]) ⟨(by first | rfl | (simp only [List.length_map]; rfl) | simp [PX.get]), trivial⟩)⟩
 intro _ he
 rw [firstErr] at he
 rw [he]
 conv=>whnf
 refine brk_i (fun h => absurd h (by simp)) (fun _ => ?_)
 conv=>whnf
 have hm := hR.men
 have h5 : (c.men.length = 1 ∨ c.men.length = 2 ∨ c.men.length = 3 ∨ c.men.length = 4 ∨ c.men.length = 5) := by omega
 have hp : (1 : Int) ≤ 2 ^ c.men.length ∧ (2 : Int) ^ c.men.length ≤ 32 := by rcases h5 with h | h | h | h | h <;> rw [h] <;> decide
 refine arith_to (2 ^ c.men.length) (by
  have : min (↑(List.map Man.cells c.men).length : Int).toNat IntKind.i64.bits = c.men.length := by
   rw [List.length_map]
   have : IntKind.i64.bits = 64 := rfl
   omega
  rw [this]; omega) (wrap_i64 (by omega)) ?_
 conv=>whnf
 refine arith_to (allMen c) rfl (wrap_i64 (by unfold allMen; omega)) ?_
 conv=>whnf
 exact RetA_view 1 rfl ⟨⟨rfl, rfl⟩, rfl⟩
end Go.PX
