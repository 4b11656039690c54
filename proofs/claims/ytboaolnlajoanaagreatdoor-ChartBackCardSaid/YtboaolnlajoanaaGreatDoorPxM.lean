import Derived.Test.YtboaolnlajoanaaGreatDoorPxL
import Derived.Test.YtboaolnlajoanaaGreatDoorPxJ
import Derived.Lib.SplitLaws
import Derived.Lib.IndexBytes
import Derived.Test.YtboaolnlajoanaaGreatDoorPxK
import Derived.Test.YtboaolnlajoanaaGreatDoorPxI
set_option linter.all false
set_option maxRecDepth 10000
namespace Go.PX
open Go.Proofs
open Go.Shelf
def Tryz.laysM171_ren : Go.Shelf.Ren := ⟨fun | 171 => 112 | 243 => 129 | 246 => 135 | 283 => 144 | 284 => 145 | 285 => 146 | 286 => 147 | 129 => 156 | 317 => 155 | 318 => 157 | 319 => 158 | 320 => 159 | 337 => 166 | 338 => 167 | n => n, fun | 3 => 3 | 9 => 9 | 2 => 2 | 4 => 4 | 171 => 200 | 0 => 0 | 53 => 201 | 37 => 168 | 5 => 5 | 173 => 204 | 212 => 213 | 51 => 206 | 20 => 20 | 213 => 214 | 46 => 198 | 232 => 233 | 233 => 234 | n => n, fun | 17 => 1 | 18 => 6 | 19 => 7 | n => n⟩
theorem Tryz.laysM171 : Go.Proofs.LaysM.n171 Tryz.prog Tryz.laysM171_ren := {
 mixed := by kernel_rfl
 f129 := Tryz.func156.trans (congrArg some (by kernel_rfl))
 f171 := Tryz.func112.trans (congrArg some (by kernel_rfl))
 f243 := Tryz.func129.trans (congrArg some (by kernel_rfl))
 f246 := Tryz.func135.trans (congrArg some (by kernel_rfl))
 f283 := Tryz.func144.trans (congrArg some (by kernel_rfl))
 f284 := Tryz.func145.trans (congrArg some (by kernel_rfl))
 f285 := Tryz.func146.trans (congrArg some (by kernel_rfl))
 f286 := Tryz.func147.trans (congrArg some (by kernel_rfl))
 f317 := Tryz.func155.trans (congrArg some (by kernel_rfl))
 f318 := Tryz.func157.trans (congrArg some (by kernel_rfl))
 f319 := Tryz.func158.trans (congrArg some (by kernel_rfl))
 f320 := Tryz.func159.trans (congrArg some (by kernel_rfl))
 f337 := Tryz.func166.trans (congrArg some (by kernel_rfl))
 f338 := Tryz.func167.trans (congrArg some (by kernel_rfl))
 t0 := Tryz.underlying0
 a0 := Tryz.isAgg0
 z0 := Tryz.sizeOf0
 v0 := Tryz.zeroValue0
 t2 := Tryz.underlying2
 a2 := Tryz.isAgg2
 z2 := Tryz.sizeOf2
 v2 := Tryz.zeroValue2
 t3 := Tryz.underlying3
 a3 := Tryz.isAgg3
 z3 := Tryz.sizeOf3
 v3 := Tryz.zeroValue3
 t4 := Tryz.underlying4
 a4 := Tryz.isAgg4
 z4 := Tryz.sizeOf4
 v4 := Tryz.zeroValue4
 t5 := Tryz.underlying5
 a5 := Tryz.isAgg5
 z5 := Tryz.sizeOf5
 v5 := Tryz.zeroValue5
 t9 := Tryz.underlying9
 a9 := Tryz.isAgg9
 z9 := Tryz.sizeOf9
 v9 := Tryz.zeroValue9
 t20 := Tryz.underlying20
 a20 := Tryz.isAgg20
 z20 := Tryz.sizeOf20
 v20 := Tryz.zeroValue20
 t37 := Tryz.underlying168
 a37 := Tryz.isAgg168
 z37 := Tryz.sizeOf168
 v37 := Tryz.zeroValue168
 t46 := Tryz.underlying198
 a46 := Tryz.isAgg198
 z46 := Tryz.sizeOf198
 v46 := Tryz.zeroValue198
 t51 := Tryz.underlying206
 a51 := Tryz.isAgg206
 z51 := Tryz.sizeOf206
 v51 := Tryz.zeroValue206
 t53 := Tryz.underlying201
 a53 := Tryz.isAgg201
 z53 := Tryz.sizeOf201
 v53 := Tryz.zeroValue201
 t171 := Tryz.underlying200
 a171 := Tryz.isAgg200
 z171 := Tryz.sizeOf200
 v171 := Tryz.zeroValue200
 t173 := Tryz.underlying204
 a173 := Tryz.isAgg204
 z173 := Tryz.sizeOf204
 v173 := Tryz.zeroValue204
 t212 := Tryz.underlying213
 a212 := Tryz.isAgg213
 z212 := Tryz.sizeOf213
 v212 := Tryz.zeroValue213
 t213 := Tryz.underlying214
 a213 := Tryz.isAgg214
 z213 := Tryz.sizeOf214
 t232 := Tryz.underlying233
 a232 := Tryz.isAgg233
 z232 := Tryz.sizeOf233
 v232 := Tryz.zeroValue233
 t233 := Tryz.underlying234
 a233 := Tryz.isAgg234
 z233 := Tryz.sizeOf234
 v233 := Tryz.zeroValue234
 g17 := by kernel_rfl
 g18 := by kernel_rfl
 g19 := by kernel_rfl
 i0 := by kernel_rfl
 i2 := by kernel_rfl
 i3 := by kernel_rfl
 i4 := by kernel_rfl
 i5 := by kernel_rfl
 i9 := by kernel_rfl
 i20 := by kernel_rfl
 i37 := by kernel_rfl
 i46 := by kernel_rfl
 i51 := by kernel_rfl
 i53 := by kernel_rfl
 i171 := by kernel_rfl
 i173 := by kernel_rfl
 i212 := by kernel_rfl
 i232 := by kernel_rfl
 i233 := by kernel_rfl
 m17 := by kernel_rfl
 m18 := by kernel_rfl
 m19 := by kernel_rfl }
open Go.RowKit Go.Sort Go.Lib in
theorem Tryz.strconv_Itoa (n : Int) (h0 : -9223372036854775808 ≤ n) (h1 : n ≤ 9223372036854775807) (w : World) (htab : Lib.TabIs Tryz.prog w "internal/strconv.uint64pow10" .u64 Lib.pow10Tab) :
  Calls Tryz.prog 112 #[.int .i64 n] w fun e w' => e = .returned (.string ⟨(Lib.itoa n).toArray⟩) ∧ ∃ k os, w' = grow (w.drewN k) os := Any.strconv_Itoa Tryz.laysM171 n h0 h1 w htab
def Tryz.laysC172_ren : Go.Shelf.Ren := ⟨fun | 172 => 143 | 244 => 153 | 245 => 154 | 247 => 161 | 279 => 162 | 280 => 163 | 281 => 164 | 282 => 165 | 287 => 168 | 316 => 169 | 171 => 112 | 205 => 170 | 321 => 171 | 322 => 172 | 243 => 129 | 246 => 135 | 283 => 144 | 284 => 145 | 285 => 146 | 286 => 147 | 129 => 156 | 317 => 155 | 318 => 157 | 319 => 158 | 320 => 159 | 337 => 166 | 338 => 167 | n => n, fun | 9 => 9 | 3 => 3 | 75 => 172 | 76 => 173 | 4 => 4 | 5 => 5 | 167 => 216 | 37 => 168 | 0 => 0 | 85 => 217 | 2 => 2 | 168 => 219 | 53 => 201 | 175 => 227 | 46 => 198 | 210 => 231 | 127 => 188 | 145 => 238 | 143 => 236 | 21 => 21 | 171 => 200 | 173 => 204 | 212 => 213 | 51 => 206 | 20 => 20 | 213 => 214 | 232 => 233 | 233 => 234 | 80 => 120 | n => n, fun | 15 => 4 | 16 => 5 | 17 => 1 | 18 => 6 | 19 => 7 | n => n⟩
theorem Tryz.laysC172 : Go.Proofs.LaysC.n172 Tryz.prog Tryz.laysC172_ren := {
 mixed := by kernel_rfl
 f129 := Tryz.func156.trans (congrArg some (by kernel_rfl))
 f171 := Tryz.func112.trans (congrArg some (by kernel_rfl))
 f172 := Tryz.func143.trans (congrArg some (by kernel_rfl))
 f205 := Tryz.func170.trans (congrArg some (by kernel_rfl))
 f243 := Tryz.func129.trans (congrArg some (by kernel_rfl))
 f244 := Tryz.func153.trans (congrArg some (by kernel_rfl))
 f245 := Tryz.func154.trans (congrArg some (by kernel_rfl))
 f246 := Tryz.func135.trans (congrArg some (by kernel_rfl))
 f247 := Tryz.func161.trans (congrArg some (by kernel_rfl))
 f279 := Tryz.func162.trans (congrArg some (by kernel_rfl))
 f280 := Tryz.func163.trans (congrArg some (by kernel_rfl))
 f281 := Tryz.func164.trans (congrArg some (by kernel_rfl))
 f282 := Tryz.func165.trans (congrArg some (by kernel_rfl))
 f283 := Tryz.func144.trans (congrArg some (by kernel_rfl))
 f284 := Tryz.func145.trans (congrArg some (by kernel_rfl))
 f285 := Tryz.func146.trans (congrArg some (by kernel_rfl))
 f286 := Tryz.func147.trans (congrArg some (by kernel_rfl))
 f287 := Tryz.func168.trans (congrArg some (by kernel_rfl))
 f316 := Tryz.func169.trans (congrArg some (by kernel_rfl))
 f317 := Tryz.func155.trans (congrArg some (by kernel_rfl))
 f318 := Tryz.func157.trans (congrArg some (by kernel_rfl))
 f319 := Tryz.func158.trans (congrArg some (by kernel_rfl))
 f320 := Tryz.func159.trans (congrArg some (by kernel_rfl))
 f321 := Tryz.func171.trans (congrArg some (by kernel_rfl))
 f322 := Tryz.func172.trans (congrArg some (by kernel_rfl))
 f337 := Tryz.func166.trans (congrArg some (by kernel_rfl))
 f338 := Tryz.func167.trans (congrArg some (by kernel_rfl))
 t0 := Tryz.underlying0
 a0 := Tryz.isAgg0
 z0 := Tryz.sizeOf0
 v0 := Tryz.zeroValue0
 t2 := Tryz.underlying2
 a2 := Tryz.isAgg2
 z2 := Tryz.sizeOf2
 v2 := Tryz.zeroValue2
 t3 := Tryz.underlying3
 a3 := Tryz.isAgg3
 z3 := Tryz.sizeOf3
 v3 := Tryz.zeroValue3
 t4 := Tryz.underlying4
 a4 := Tryz.isAgg4
 z4 := Tryz.sizeOf4
 v4 := Tryz.zeroValue4
 t5 := Tryz.underlying5
 a5 := Tryz.isAgg5
 z5 := Tryz.sizeOf5
 v5 := Tryz.zeroValue5
 t9 := Tryz.underlying9
 a9 := Tryz.isAgg9
 z9 := Tryz.sizeOf9
 v9 := Tryz.zeroValue9
 t20 := Tryz.underlying20
 a20 := Tryz.isAgg20
 z20 := Tryz.sizeOf20
 v20 := Tryz.zeroValue20
 t21 := Tryz.underlying21
 a21 := Tryz.isAgg21
 z21 := Tryz.sizeOf21
 v21 := Tryz.zeroValue21
 t37 := Tryz.underlying168
 a37 := Tryz.isAgg168
 z37 := Tryz.sizeOf168
 v37 := Tryz.zeroValue168
 t46 := Tryz.underlying198
 a46 := Tryz.isAgg198
 z46 := Tryz.sizeOf198
 v46 := Tryz.zeroValue198
 t51 := Tryz.underlying206
 a51 := Tryz.isAgg206
 z51 := Tryz.sizeOf206
 v51 := Tryz.zeroValue206
 t53 := Tryz.underlying201
 a53 := Tryz.isAgg201
 z53 := Tryz.sizeOf201
 v53 := Tryz.zeroValue201
 t75 := Tryz.underlying172
 a75 := Tryz.isAgg172
 z75 := Tryz.sizeOf172
 v75 := Tryz.zeroValue172
 t76 := Tryz.underlying173
 a76 := Tryz.isAgg173
 z76 := Tryz.sizeOf173
 v76 := Tryz.zeroValue173
 t85 := Tryz.underlying217
 a85 := Tryz.isAgg217
 z85 := Tryz.sizeOf217
 v85 := Tryz.zeroValue217
 t127 := Tryz.underlying188
 a127 := Tryz.isAgg188
 z127 := Tryz.sizeOf188
 v127 := Tryz.zeroValue188
 t143 := Tryz.underlying236
 a143 := Tryz.isAgg236
 z143 := Tryz.sizeOf236
 v143 := Tryz.zeroValue236
 t145 := Tryz.underlying238
 a145 := Tryz.isAgg238
 z145 := Tryz.sizeOf238
 v145 := Tryz.zeroValue238
 t167 := Tryz.underlying216
 a167 := Tryz.isAgg216
 z167 := Tryz.sizeOf216
 v167 := Tryz.zeroValue216
 t168 := Tryz.underlying219
 a168 := Tryz.isAgg219
 z168 := Tryz.sizeOf219
 v168 := Tryz.zeroValue219
 t171 := Tryz.underlying200
 a171 := Tryz.isAgg200
 z171 := Tryz.sizeOf200
 v171 := Tryz.zeroValue200
 t173 := Tryz.underlying204
 a173 := Tryz.isAgg204
 z173 := Tryz.sizeOf204
 v173 := Tryz.zeroValue204
 t175 := Tryz.underlying227
 a175 := Tryz.isAgg227
 z175 := Tryz.sizeOf227
 v175 := Tryz.zeroValue227
 t210 := Tryz.underlying231
 a210 := Tryz.isAgg231
 z210 := Tryz.sizeOf231
 v210 := Tryz.zeroValue231
 t212 := Tryz.underlying213
 a212 := Tryz.isAgg213
 z212 := Tryz.sizeOf213
 v212 := Tryz.zeroValue213
 t213 := Tryz.underlying214
 a213 := Tryz.isAgg214
 z213 := Tryz.sizeOf214
 t232 := Tryz.underlying233
 a232 := Tryz.isAgg233
 z232 := Tryz.sizeOf233
 v232 := Tryz.zeroValue233
 t233 := Tryz.underlying234
 a233 := Tryz.isAgg234
 z233 := Tryz.sizeOf234
 v233 := Tryz.zeroValue234
 g15 := by kernel_rfl
 g16 := by kernel_rfl
 g17 := by kernel_rfl
 g18 := by kernel_rfl
 g19 := by kernel_rfl
 t80 := Tryz.underlying120
 a80 := Tryz.isAgg120
 z80 := Tryz.sizeOf120
 v80 := Tryz.zeroValue120
 i0 := by kernel_rfl
 i2 := by kernel_rfl
 i3 := by kernel_rfl
 i4 := by kernel_rfl
 i5 := by kernel_rfl
 i9 := by kernel_rfl
 i20 := by kernel_rfl
 i21 := by kernel_rfl
 i37 := by kernel_rfl
 i46 := by kernel_rfl
 i51 := by kernel_rfl
 i53 := by kernel_rfl
 i75 := by kernel_rfl
 i76 := by kernel_rfl
 i80 := by kernel_rfl
 i85 := by kernel_rfl
 i127 := by kernel_rfl
 i143 := by kernel_rfl
 i145 := by kernel_rfl
 i167 := by kernel_rfl
 i168 := by kernel_rfl
 i171 := by kernel_rfl
 i173 := by kernel_rfl
 i175 := by kernel_rfl
 i210 := by kernel_rfl
 i212 := by kernel_rfl
 i232 := by kernel_rfl
 i233 := by kernel_rfl
 m15 := by kernel_rfl
 m16 := by kernel_rfl
 m17 := by kernel_rfl
 m18 := by kernel_rfl
 m19 := by kernel_rfl
 c0 := by kernel_rfl
 c2 := by kernel_rfl
 c3 := by kernel_rfl
 c4 := by kernel_rfl
 c5 := by kernel_rfl
 c9 := by kernel_rfl
 c20 := by kernel_rfl
 c21 := by kernel_rfl
 c37 := by kernel_rfl
 c46 := by kernel_rfl
 c51 := by kernel_rfl
 c53 := by kernel_rfl
 c75 := by kernel_rfl
 c76 := by kernel_rfl
 c80 := by kernel_rfl
 c85 := by kernel_rfl
 c127 := by kernel_rfl
 c143 := by kernel_rfl
 c145 := by kernel_rfl
 c167 := by kernel_rfl
 c168 := by kernel_rfl
 c171 := by kernel_rfl
 c173 := by kernel_rfl
 c175 := by kernel_rfl
 c210 := by kernel_rfl
 c212 := by kernel_rfl
 c213 := by kernel_rfl
 c232 := by kernel_rfl
 c233 := by kernel_rfl }
open Go.RowKit in
theorem Tryz.strconv_Atoi_ok (s : ByteArray) (hmax : s.size ≤ 9223372036854775806) (v : Int) (h : Lib.atoiAll s.data.toList = .ok v) (w : World) :
  Calls Tryz.prog 143 #[.string s] w fun e w' => e = .returned (.tuple #[.int .i64 v, .nilIface]) ∧ (w' = w ∨ ∃ t, w' = Lib.bytesWorld w 5 t) := Any.strconv_Atoi_ok Tryz.laysC172 s hmax v h w
def Tryz.lays145_ren : Go.Shelf.Ren := ⟨fun | 145 => 89 | 220 => 116 | 219 => 130 | 217 => 136 | 225 => 137 | 224 => 138 | 267 => 139 | 266 => 148 | 314 => 149 | n => n, fun | 9 => 9 | 4 => 4 | 59 => 139 | 3 => 3 | 5 => 5 | 46 => 198 | 146 => 207 | 51 => 206 | n => n, fun | 1 => 0 | n => n⟩
theorem Tryz.lays145 : Go.Proofs.Lays.n145 Tryz.prog Tryz.lays145_ren := {
 mixed := by kernel_rfl
 f145 := Tryz.func89.trans (congrArg some (by kernel_rfl))
 f217 := Tryz.func136.trans (congrArg some (by kernel_rfl))
 f219 := Tryz.func130.trans (congrArg some (by kernel_rfl))
 f220 := Tryz.func116.trans (congrArg some (by kernel_rfl))
 f224 := Tryz.func138.trans (congrArg some (by kernel_rfl))
 f225 := Tryz.func137.trans (congrArg some (by kernel_rfl))
 f266 := Tryz.func148.trans (congrArg some (by kernel_rfl))
 f267 := Tryz.func139.trans (congrArg some (by kernel_rfl))
 f314 := Tryz.func149.trans (congrArg some (by kernel_rfl))
 t3 := Tryz.underlying3
 a3 := Tryz.isAgg3
 z3 := Tryz.sizeOf3
 v3 := Tryz.zeroValue3
 t4 := Tryz.underlying4
 a4 := Tryz.isAgg4
 z4 := Tryz.sizeOf4
 v4 := Tryz.zeroValue4
 t5 := Tryz.underlying5
 a5 := Tryz.isAgg5
 z5 := Tryz.sizeOf5
 v5 := Tryz.zeroValue5
 t9 := Tryz.underlying9
 a9 := Tryz.isAgg9
 z9 := Tryz.sizeOf9
 v9 := Tryz.zeroValue9
 t46 := Tryz.underlying198
 a46 := Tryz.isAgg198
 z46 := Tryz.sizeOf198
 v46 := Tryz.zeroValue198
 t51 := Tryz.underlying206
 a51 := Tryz.isAgg206
 z51 := Tryz.sizeOf206
 v51 := Tryz.zeroValue206
 t59 := Tryz.underlying139
 a59 := Tryz.isAgg139
 z59 := Tryz.sizeOf139
 v59 := Tryz.zeroValue139
 t146 := Tryz.underlying207
 a146 := Tryz.isAgg207
 z146 := Tryz.sizeOf207
 v146 := Tryz.zeroValue207
 g1 := by kernel_rfl }
open Go.RowKit Go.Lib in
theorem Tryz.strings_Cut (s sep : ByteArray) (m : Int) (w : World) (hs : s.size < 4294967281) (hm : w.cell? ⟨0, 0, none⟩ = some (.int .i64 m)) :
  Calls Tryz.prog 89 #[.string s, .string sep] w fun e w' => e = .returned (.tuple #[.string ⟨(Lib.cut s.data.toList sep.data.toList).1.toArray⟩, .string ⟨(Lib.cut s.data.toList sep.data.toList).2.1.toArray⟩, .bool (Lib.cut s.data.toList sep.data.toList).2.2]) ∧ ∃ n, w' = w.drewN n := Any.strings_Cut Tryz.lays145 s sep m w hs hm
def Tryz.lays146_ren : Go.Shelf.Ren := ⟨fun | 146 => 117 | 221 => 131 | 268 => 140 | 138 => 141 | 143 => 142 | 195 => 150 | 197 => 151 | 218 => 152 | 219 => 130 | 260 => 160 | 217 => 136 | 225 => 137 | 224 => 138 | 267 => 139 | 266 => 148 | 314 => 149 | n => n, fun | 9 => 9 | 31 => 117 | 3 => 3 | 4 => 4 | 0 => 0 | 105 => 209 | 21 => 21 | 5 => 5 | 46 => 198 | 119 => 223 | 139 => 226 | 138 => 225 | 146 => 207 | 51 => 206 | n => n, fun | 1 => 0 | 3 => 2 | 4 => 3 | n => n⟩
theorem Tryz.lays146 : Go.Proofs.Lays.n146 Tryz.prog Tryz.lays146_ren := {
 mixed := by kernel_rfl
 f138 := Tryz.func141.trans (congrArg some (by kernel_rfl))
 f143 := Tryz.func142.trans (congrArg some (by kernel_rfl))
 f146 := Tryz.func117.trans (congrArg some (by kernel_rfl))
 f195 := Tryz.func150.trans (congrArg some (by kernel_rfl))
 f197 := Tryz.func151.trans (congrArg some (by kernel_rfl))
 f217 := Tryz.func136.trans (congrArg some (by kernel_rfl))
 f218 := Tryz.func152.trans (congrArg some (by kernel_rfl))
 f219 := Tryz.func130.trans (congrArg some (by kernel_rfl))
 f221 := Tryz.func131.trans (congrArg some (by kernel_rfl))
 f224 := Tryz.func138.trans (congrArg some (by kernel_rfl))
 f225 := Tryz.func137.trans (congrArg some (by kernel_rfl))
 f260 := Tryz.func160.trans (congrArg some (by kernel_rfl))
 f266 := Tryz.func148.trans (congrArg some (by kernel_rfl))
 f267 := Tryz.func139.trans (congrArg some (by kernel_rfl))
 f268 := Tryz.func140.trans (congrArg some (by kernel_rfl))
 f314 := Tryz.func149.trans (congrArg some (by kernel_rfl))
 t0 := Tryz.underlying0
 a0 := Tryz.isAgg0
 z0 := Tryz.sizeOf0
 v0 := Tryz.zeroValue0
 t3 := Tryz.underlying3
 a3 := Tryz.isAgg3
 z3 := Tryz.sizeOf3
 v3 := Tryz.zeroValue3
 t4 := Tryz.underlying4
 a4 := Tryz.isAgg4
 z4 := Tryz.sizeOf4
 v4 := Tryz.zeroValue4
 t5 := Tryz.underlying5
 a5 := Tryz.isAgg5
 z5 := Tryz.sizeOf5
 v5 := Tryz.zeroValue5
 t9 := Tryz.underlying9
 a9 := Tryz.isAgg9
 z9 := Tryz.sizeOf9
 v9 := Tryz.zeroValue9
 t21 := Tryz.underlying21
 a21 := Tryz.isAgg21
 z21 := Tryz.sizeOf21
 v21 := Tryz.zeroValue21
 t31 := Tryz.underlying117
 a31 := Tryz.isAgg117
 z31 := Tryz.sizeOf117
 v31 := Tryz.zeroValue117
 t46 := Tryz.underlying198
 a46 := Tryz.isAgg198
 z46 := Tryz.sizeOf198
 v46 := Tryz.zeroValue198
 t51 := Tryz.underlying206
 a51 := Tryz.isAgg206
 z51 := Tryz.sizeOf206
 v51 := Tryz.zeroValue206
 t105 := Tryz.underlying209
 a105 := Tryz.isAgg209
 z105 := Tryz.sizeOf209
 v105 := Tryz.zeroValue209
 t119 := Tryz.underlying223
 a119 := Tryz.isAgg223
 z119 := Tryz.sizeOf223
 t138 := Tryz.underlying225
 a138 := Tryz.isAgg225
 z138 := Tryz.sizeOf225
 v138 := Tryz.zeroValue225
 t139 := Tryz.underlying226
 a139 := Tryz.isAgg226
 z139 := Tryz.sizeOf226
 v139 := Tryz.zeroValue226
 t146 := Tryz.underlying207
 a146 := Tryz.isAgg207
 z146 := Tryz.sizeOf207
 v146 := Tryz.zeroValue207
 g1 := by kernel_rfl
 g3 := by kernel_rfl
 g4 := by kernel_rfl }
open Go.RowKit Go.Lib in
theorem Tryz.strings_Split (s sep : ByteArray) (m : Int) (w : World) (hs : s.size < 4294967281) (hm : w.cell? ⟨0, 0, none⟩ = some (.int .i64 m)) (h1 : 1 ≤ sep.size) :
  Calls Tryz.prog 117 #[.string s, .string sep] w fun e w' =>
   e = .returned (.slice (some ⟨w.heap.size, 0, none⟩) (Lib.countB s sep + 1) (Lib.countB s sep + 1)) ∧ w' = w.alloc (.cells ((Lib.splitB sep 0 (Lib.countB s sep) s).map Value.string).toArray 9) := Any.strings_Split Tryz.lays146 (by kernel_rfl) s sep m w hs hm h1
theorem ch112 (n : Int) (h : -1000000000000000000 ≤ n ∧ n ≤ 1000000000000000000) : FnV Tryz.prog 112 [i64 n] (.str (numB n)) := by
 refine fnV_calls (enters Tryz.func112 rfl (by decide +kernel)) fun vals w F hl hf hr => ?_
 obtain ⟨x, l', h1, h2, h3⟩ := hr
 have h2 : x = .int .i64 n := h2
 have h3 : l' = [] := h3
 subst h2 h3
 have hv : vals = #[.int .i64 n] := Array.ext' h1
 subst hv
 refine (Tryz.strconv_Itoa n (by omega) (by omega) w (hl.tab 1 (by kernel_rfl))).mono ?_
 rintro e w' ⟨rfl, k, os, rfl⟩
 have hx : (⟨(Lib.itoa n).toArray⟩ : ByteArray) = numB n := by rw [numB, numL_eq h]
 rw [hx]
 have hsz : (Go.Sort.grow (w.drewN k) os).heap.size = w.heap.size + os.size := by simp [Go.Sort.grow, World.drewN]
 refine ⟨_, rfl, ⟨rfl, rfl, rfl, by omega, fun b hb => ?_⟩, F, fun _ _ => rfl, fun b hb => hf b (by omega), rfl⟩
 show (w.heap ++ os)[b]? = _
 rw [Array.getElem?_append_left hb]
end Go.PX
namespace Go.PX
open Go.Proofs
open Go.RowKit
def cut1 (c : UInt8) : List UInt8 → List UInt8 × List UInt8 × Bool
 | [] => ([], [], false)
 | x :: r => if x = c then ([], r, true) else (x :: (cut1 c r).1, (cut1 c r).2.1, (cut1 c r).2.2)
def headC (x : UInt8) : List (List UInt8) → List (List UInt8)
 | [] => [[x]]
 | a :: t => (x :: a) :: t
def splitL (c : UInt8) : List UInt8 → List (List UInt8)
 | [] => [[]]
 | x :: r => if x = c then [] :: splitL c r else headC x (splitL c r)
theorem idx_nil (c : UInt8) : Lib.index [] [c] = -1 := rfl
theorem idx_eq (c : UInt8) (r : List UInt8) : Lib.index (c :: r) [c] = 0 := by
 rw [Lib.index_one, Lib.indexByte]; simp
theorem idx_ne {c x : UInt8} (h : x ≠ c) (r : List UInt8) : Lib.index (x :: r) [c] = if Lib.index r [c] == -1 then -1 else Lib.index r [c] + 1 := by
 rw [Lib.index_one, Lib.indexByte, Lib.index_one]; simp [h]
theorem cut_eq (c : UInt8) : ∀ l : List UInt8, Lib.cut l [c] = cut1 c l
 | [] => by simp [Lib.cut, idx_nil, cut1]
 | x :: r => by
  rw [cut1]
  by_cases h : x = c
  ·subst h
   rw [if_pos rfl, Lib.cut, idx_eq]; simp
  ·rw [if_neg h, ← cut_eq c r]
   have hge := Lib.index_ge r [c]
   unfold Lib.cut
   rw [idx_ne h]
   by_cases h1 : Lib.index r [c] = -1
   ·simp [h1]
   ·obtain ⟨i, hi⟩ : ∃ i : Nat, Lib.index r [c] = i := ⟨(Lib.index r [c]).toNat, by omega⟩
    rw [hi]
    have h2 : ((i : Int) == -1) = false := by first | (simp; done) | (simp; omega)
    rw [h2]
    have h3 : (0 : Int) ≤ (i : Int) + 1 := by omega
    have h4 : (0 : Int) ≤ (i : Int) := by omega
    simp only [Bool.false_eq_true, if_false, if_pos h3, if_pos h4]
    have h5 : ((i : Int) + 1).toNat = i + 1 := by omega
    have h6 : ((i : Int)).toNat = i := by omega
    rw [h5, h6]
    simp
theorem splitK_eq (c : UInt8) : ∀ l : List UInt8, Lib.splitK [c] 0 (l.count c) l = splitL c l
 | [] => rfl
 | x :: r => by
  have ih := splitK_eq c r
  rw [splitL]
  by_cases h : x = c
  ·subst h
   rw [if_pos rfl, List.count_cons_self, Lib.splitK, idx_eq, ← ih]
   simp
  ·rw [if_neg h, List.count_cons_of_ne (by simpa using h)]
   cases hk : r.count c with
   | zero =>
    rw [hk] at ih
    rw [← ih]; rfl
   | succ k =>
    rw [hk] at ih
    rw [← ih]
    have hge := Lib.index_ge r [c]
    rw [Lib.splitK, Lib.splitK, idx_ne h]
    by_cases h1 : Lib.index r [c] = -1
    ·rw [h1]; simp [headC]
    ·obtain ⟨i, hi⟩ : ∃ i : Nat, Lib.index r [c] = i := ⟨(Lib.index r [c]).toNat, by omega⟩
     rw [hi]
     have h2 : ((i : Int) == -1) = false := by first | (simp; done) | (simp; omega)
     have h3 : (((i : Int) + 1) == -1) = false := by first | (simp; done) | (simp; omega)
     rw [h2]
     simp only [Bool.false_eq_true, if_false]
     rw [h3]
     have h5 : ((i : Int) + 1).toNat = i + 1 := by omega
     have h6 : ((i : Int)).toNat = i := by omega
     simp only [Bool.false_eq_true, if_false, h5, h6, headC]
     simp
def piecesB (c : UInt8) (s : ByteArray) : List ByteArray := (splitL c s.data.toList).map fun l => ⟨l.toArray⟩
theorem splitB_eq (c : UInt8) (s : ByteArray) : Lib.splitB ⟨#[c]⟩ 0 (Lib.countB s ⟨#[c]⟩) s = piecesB c s := by
 have h := Lib.splitB_data ⟨#[c]⟩ 0 (Lib.countB s ⟨#[c]⟩) s
 have hc : Lib.countB s ⟨#[c]⟩ = s.data.toList.count c := Lib.count_one c s.data.toList
 rw [hc] at h ⊢
 have h2 : (⟨#[c]⟩ : ByteArray).data.toList = [c] := rfl
 rw [h2, splitK_eq] at h
 unfold piecesB
 rw [← h, List.map_map]
 conv => lhs; rw [← List.map_id (Lib.splitB ⟨#[c]⟩ 0 (s.data.toList.count c) s)]
 refine List.map_congr_left fun x _ => ?_
 cases x; simp
def atoiX (s : ByteArray) : Option Int :=
 match Lib.atoiAll s.data.toList with
 | .ok v => some v
 | _ => none
theorem str_vals {F : Nat → Nat} {w : World} {s : ByteArray} {vals : Array Value} (hr : RepDL F w [.str s] vals.toList) : vals = #[.string s] := by
 obtain ⟨x, l', h1, h2, h3⟩ := hr
 have h2 : x = .string s := h2
 have h3 : l' = [] := h3
 subst h2 h3
 exact Array.ext' h1
theorem str_vals2 {F : Nat → Nat} {w : World} {s t : ByteArray} {vals : Array Value} (hr : RepDL F w [.str s, .str t] vals.toList) : vals = #[.string s, .string t] := by
 obtain ⟨x, l', h1, h2, y, l2, rfl, h3, h4⟩ := hr
 have h2 : x = .string s := h2
 have h3 : y = .string t := h3
 have h4 : l2 = [] := h4
 subst h2 h3 h4
 exact Array.ext' h1
theorem Grown.of {w w' : World} (h : Below w.heap.size w w') : Grown w w' := ⟨h.os, h.tape, h.output, h.size, h.block⟩
theorem ch143 (s : ByteArray) (v : Int) (hs : s.size ≤ 1000000000) (h : atoiX s = some v) : FnV Tryz.prog 143 [.str s] (.tup [i64 v, .nili]) := by
 refine fnV_calls (enters Tryz.func143 rfl (by decide +kernel)) fun vals w F hl hf hr => ?_
 have ha : Lib.atoiAll s.data.toList = .ok v := by
  unfold atoiX at h
  split at h
  ·rename_i u hu; cases h; exact hu
  ·cases h
 rw [str_vals hr]
 refine (Tryz.strconv_Atoi_ok s (by omega) v ha w).mono ?_
 rintro e w' ⟨rfl, rfl | ⟨t, rfl⟩⟩
 ·exact ⟨_, rfl, Grown.refl _, F, fun _ _ => rfl, hf, _, rfl, _, _, rfl, rfl, _, _, rfl, rfl, rfl⟩
 ·have h2 := Lib.bytesWorld_size w 5 t
  exact ⟨_, rfl, Grown.of (Lib.bytesWorld_below w 5 t), F, fun _ _ => rfl, fun b hb => hf b (by omega), _, rfl, _, _, rfl, rfl, _, _, rfl, rfl, rfl⟩
theorem ch89 (s : ByteArray) (c : UInt8) (hs : s.size ≤ 1000000000) : FnV Tryz.prog 89 [.str s, .str ⟨#[c]⟩] (.tup [.str ⟨(cut1 c s.data.toList).1.toArray⟩, .str ⟨(cut1 c s.data.toList).2.1.toArray⟩, .bool (cut1 c s.data.toList).2.2]) := by
 refine fnV_calls (enters Tryz.func89 rfl (by decide +kernel)) fun vals w F hl hf hr => ?_
 rw [str_vals2 hr]
 obtain ⟨m, hm⟩ := hl.len 0 (by kernel_rfl)
 have hc := cut_eq c s.data.toList
 refine (Tryz.strings_Cut s ⟨#[c]⟩ m w (by omega) hm).mono ?_
 rintro e w' ⟨rfl, n, rfl⟩
 have h2 : (⟨#[c]⟩ : ByteArray).data.toList = [c] := rfl
 rw [h2, hc]
 exact ⟨_, rfl, ⟨rfl, rfl, rfl, Nat.le_refl _, fun _ _ => rfl⟩, F, fun _ _ => rfl, hf, _, rfl, _, _, rfl, rfl, _, _, rfl, rfl, _, _, rfl, rfl, rfl⟩
def wordsD (l : List ByteArray) : D := .vs (l.map fun x => [.str x])
theorem repEs_strs {F : Nat → Nat} {w : World} {b : Nat} : ∀ (l : List ByteArray) (off : Nat), (∀ i x, l[i]? = some x → off + i < F b ∧ w.cell? ⟨b, off + i, none⟩ = some (.string x)) → RepEs F w b off 1 (l.map fun x => [D.str x])
 | [], _, _ => trivial
 | x :: r, off, h => by
  obtain ⟨h1, h2⟩ := h 0 x rfl
  exact ⟨rfl, ⟨h1, ⟨_, h2, rfl⟩, trivial⟩, repEs_strs r (off + 1) fun i y hy => by
   have := h (i + 1) y hy
   rwa [show off + (i + 1) = off + 1 + i by omega] at this⟩
theorem ch117 (s : ByteArray) (c : UInt8) (hs : s.size ≤ 1000000000) : FnV Tryz.prog 117 [.str s, .str ⟨#[c]⟩] (wordsD (piecesB c s)) := by
 refine fnV_calls (enters Tryz.func117 rfl (by decide +kernel)) fun vals w F hl hf hr => ?_
 rw [str_vals2 hr]
 obtain ⟨m, hm⟩ := hl.len 0 (by kernel_rfl)
 refine (Tryz.strings_Split s ⟨#[c]⟩ m w (by omega) hm (Nat.le_refl 1)).mono ?_
 rintro e w' ⟨rfl, rfl⟩
 have hlen := Lib.splitB_all ⟨#[c]⟩ (Nat.le_refl 1) 0 _ s rfl
 rw [splitB_eq] at hlen ⊢
 rw [← hlen]
 generalize piecesB c s = l at hlen ⊢
 have hne : l ≠ [] := by rintro rfl; simp at hlen
 refine ⟨_, rfl, ⟨rfl, rfl, rfl, by simp, fun b hb => by show (w.heap.push _)[b]? = _; rw [Array.getElem?_push_lt hb, Array.getElem?_eq_getElem hb]⟩, fun b => if b = w.heap.size then l.length else F b, fun b hb => if_neg (by omega), fun b hb => ?_, _, _, _, rfl, by simp, Nat.le_refl _, fun _ => ⟨_, 0, 1, rfl, Nat.one_pos, repEs_strs l 0 fun i x hx => ?_⟩⟩
 ·have : (w.alloc (.cells (l.map Value.string).toArray 9)).heap.size = w.heap.size + 1 := by simp
  show (if b = w.heap.size then l.length else F b) = 0
  rw [if_neg (by omega)]
  exact hf b (by omega)
 ·have hi : i < l.length := (List.getElem?_eq_some_iff.1 hx).1
  refine ⟨by simp; exact hi, ?_⟩
  rw [cell_of_row _ _ _ _ _ _ (heap_alloc_new w _)]
  simp [hx]
end Go.PX
namespace Go.PX
open Go.RowKit
theorem HeapOk.turn {σ : Type} {cx : Cx σ} {L : Loc} {F : Nat → Nat} {h : Heap} {s : σ} {w w' : World} (hh : HeapOk cx L F h s w) (g : Nat) (hF : F g = 0) (hC : ¬ cx.C s g) (hos : w'.os = w.os) (ht : w'.tape = w.tape) (hu : w'.output = w.output)
  (hsz : w'.heap.size = w.heap.size) (hk : ∀ b, b ≠ g → w'.heap[b]? = w.heap[b]?) (hne : ∀ id o, get h id = some o → Backed L id o → L.ρ id ≠ g) : HeapOk cx L F h s w' ∧ Tr F w F w' := by
 have tr : Tr F w F w' := .of_keep hos ht hu (by omega) (fun _ => Nat.le_refl _) hh.fresh fun b _ hF' => hk b (by rintro rfl; omega)
 exact ⟨hh.keep tr (fun b hb => hh.fresh b (by omega)) (fun b hb => ⟨hk b (by rintro rfl; exact hC hb), rfl⟩) fun id o hi hb => ⟨hk _ (hne id o hi hb), rfl⟩, tr⟩
theorem fnU_calls {P : Program} {f : FuncId} {args : List V} {h0 h1 : Heap} {v0 : V} (he : ∀ (vs : Array Value) (w : World), (callFunc f vs).run P w = .ok (.enter f vs) w)
  (h : ∀ {σ : Type} (cx : Cx σ) (L : Loc) (F : Nat → Nat) (s : σ) (vals : Array Value) (w : World), HeapOk cx L F h0 s w → RepVL cx.yv L F w args vals.toList →
   Calls P f vals w fun e w' => ∃ x, e = .returned x ∧ HeapOk cx L F h1 s w' ∧ RepV cx.yv L F w' v0 x ∧ Tr F w F w') : FnU P f args h0 fun v h' => v = v0 ∧ h' = h1 := by
 intro σ Y s
 refine ⟨he, fun cx hY L F vals w hh hr => ?_⟩
 refine (callsIn_wide.2 (h cx L F s vals w hh hr)).mono ?_
 rintro e w' ⟨x, rfl, hh', hx, tr⟩
 exact ⟨x, rfl, _, _, s, L, F, ⟨⟨rfl, rfl⟩, rfl⟩, hh', hx, tr, fun _ _ => ⟨rfl, rfl⟩⟩
section
variable {P : Program} {σ : Type} {Y : Hd σ}
theorem CallA_frzP (n : Nat) (ids : List Nat) {e : Env} {h h' : Heap} {s : σ} {d : Option Nat} {f : FuncId} {args args' : List V} {K : St σ → Prop} (hv : replL (objD (keepT ids h) n) args = args') (hh : cutL h (keysOf (keepT ids h)) = h')
  (hk : CallA P Y ⟨e, h', s⟩ d f args' K) : CallA P Y ⟨e, h, s⟩ d f args K := by
 obtain ⟨he, hk⟩ := hk
 subst hh hv
 refine ⟨he, fun cx hY r m L F a w vals hg hd hr => ?_⟩
 obtain ⟨F1, hg1, tr1, hvw⟩ := hg.frzPart2 (h := keepT ids h) (fun i o hi => sub_keepT ids h i o hi) n
 rw [applyWs_delL] at hg1
 refine (hk cx hY r m L F1 a w vals hg1 hd (hvw _ _ hr)).mono ?_
 rintro en w' (⟨x, rfl, st', L', F', k1, k2, k3⟩ | ⟨pv, pe, ph, ps, L', F', he, hy, hgp, trp⟩)
 ·exact .inl ⟨x, rfl, st', L', F', k1, k2, Tr.trans tr1 k3⟩
 ·exact .inr ⟨pv, pe, ph, ps, L', F', he, hy, hgp, Tr.trans tr1 trp⟩
end
end Go.PX
namespace Go.PX
open Go.RowKit
structure FnX {σ : Type} (P : Program) (Y : Hd σ) (f : FuncId) (args : List V) (h : Heap) (s : σ) (Q : V → Heap → σ → Prop) (X : Value → Heap → σ → Prop) : Prop where
 enter : ∀ (vs : Array Value) (w : World), (callFunc f vs).run P w = .ok (.enter f vs) w
 run : ∀ (cx : Cx σ), Handles P Y cx → ∀ (L : Loc) (F : Nat → Nat) (vals : Array Value) (w : World), HeapOk cx L F h s w → RepVL cx.yv L F w args vals.toList →
  CallsIn Fence.wide 0 P f vals w fun e w' => (∃ x, e = .returned x ∧ ∃ v h' s' L' F', Q v h' s' ∧ HeapOk cx L' F' h' s' w' ∧ RepV cx.yv L' F' w' v x ∧ Tr F w F' w' ∧ PinEq L L') ∨
   ∃ pv h' s' L' F', e = .panicked [{ v := pv, recovered := false }] ∧ X pv h' s' ∧ HeapOk cx L' F' h' s' w' ∧ Tr F w F' w' ∧ PinEq L L'
def FnXU (P : Program) (f : FuncId) (args : List V) (h : Heap) (Q : V → Heap → Prop) (X : Value → Heap → Prop) : Prop :=
 ∀ {σ : Type} (Y : Hd σ) (s : σ), FnX P Y f args h s (fun v h' s' => Q v h' ∧ s' = s) fun pv h' s' => X pv h' ∧ s' = s
def panY {σ : Type} (Y : Hd σ) (X : Value → Heap → σ → Prop) : Hd σ := { y := Y.y, p := fun pv _ h s => RetA [] h s fun _ h' s' => X pv h' s' }
section
variable {P : Program} {T : Tys} {σ : Type}
theorem leaves_marks_p {cx : Cx σ} {L : Loc} {F0 : Nat → Nat} {w0 : World} {h : Heap} {s : σ} {fn : Func} {tmps : Array Value} {R : Ending → World → Prop} {ch : List PanicEntry} : ∀ (m : List Nat) {F : Nat → Nat} {w : World}, HeapOk cx L F h s w → Tr F0 w0 F w →
  (∀ b ∈ m, w.heap[b]? = some (.deferred (some [])) ∧ ¬ cx.C s b) → m.Nodup → (∀ w', HeapOk cx L F h s w' → Tr F w F w' → R (.panicked ch) w') →
  LeavesInM Fence.wide 0 P fn tmps R (m.map mark) (.panicking ch) w
 | [], F, w, hh, tr, hm, hn, hR => by
  simp only [List.map_nil, LeavesInM, LeavesIn]
  exact hR w hh (Tr.refl F w)
 | b :: m, F, w, hh, tr, hm, hn, hR => by
  obtain ⟨hb, hC⟩ := hm b (List.mem_cons_self ..)
  obtain ⟨hh', tr'⟩ := hh.unmark hb hC
  simp only [List.map_cons, LeavesInM]
  refine ⟨by simp, .inl ⟨b, w.putObj b (.deferred none), rfl, ?_, ?_⟩⟩
  ·simp [Instr.takeDeferred, Sem.run_bind, getObj, setObj, Sem.run, hb, Result.andThen, World.putObj]
  ·have hnd := List.nodup_cons.1 hn
   refine leaves_marks_p m hh' (Tr.trans tr tr') (fun x hx => ?_) hnd.2 fun w' h1 h2 => hR w' h1 (Tr.trans tr' h2)
   have hxb : x ≠ b := by rintro rfl; exact hnd.1 hx
   refine ⟨?_, (hm x (List.mem_cons_of_mem _ hx)).2⟩
   rw [← (hm x (List.mem_cons_of_mem _ hx)).1]
   simp [World.putObj, Array.getElem?_setIfInBounds_ne (Ne.symm hxb)]
theorem fnX_of (hm : P.follows .mixedOrders = true) (hT : TysOk P T) {Y : Hd σ} {f : FuncId} {fn : Func} {c : Code} (hf : P.funcs[f]? = some fn) (hb : fn.body = some c) {ft : FT} {args : List V} (hok : fnB ft fn args.length = true)
  {h : Heap} {s : σ} {Q : V → Heap → σ → Prop} {X : Value → Heap → σ → Prop} (hw : wpA P T ft (panY Y X) c ⟨enterE 0 args, h, s⟩ (fnK T fn.results.toList Q)) : FnX P Y f args h s Q X := by
 unfold fnB at hok
 rw [hb] at hok
 simp only [Bool.and_eq_true, bne_iff_ne, ne_eq] at hok
 obtain ⟨⟨⟨⟨hcode, hdraws⟩, hnt⟩, hname⟩, hlen⟩ := hok
 have hnt := Nat.le_of_ble_eq_true hnt
 have hlen := Nat.le_of_ble_eq_true hlen
 refine ⟨fun vs w => by simp [callFunc, hf, hname, hb, Go.mark], fun cx hY L F vals w hh hr => ?_⟩
 have hvl : vals.size = args.length := by simpa using hr.length
 have hsz : (vals ++ Array.replicate (fn.ntmps - vals.size) undef).size = fn.ntmps := by simp; omega
 refine callsIn_of_wp_marks hf hb trivial ?_
 have hg : Good { cx with pρ := L.ρ, pκ := L.κ, base := [] } none [] L F ⟨enterE 0 args, h, s⟩ { tmps := vals ++ Array.replicate (fn.ntmps - vals.size) undef, defers := [] } w := by
  refine ⟨⟨hh.hg, hh.csz, hh.fresh, hh.obj, hh.own, hh.inj⟩, fun t v ht => ?_, rfl, (fun b hb => by cases hb), List.nodup_nil, (fun l hl => by cases hl), fun _ _ => ⟨rfl, rfl⟩, by rw [hsz]; exact hnt⟩
  obtain ⟨k, hk, hv⟩ := get_enter ht
  rw [Nat.zero_add] at hk; subst hk
  obtain ⟨x, hx, hrx⟩ := hr.get t hv
  refine ⟨x, ?_, hrx⟩
  have hlt : t < vals.size := by
   have := (List.getElem?_eq_some_iff.1 hx).1
   simpa using this
  rw [Array.getElem?_append_left hlt]
  simpa using hx
 have hY' : Handles P (panY Y X) { cx with pρ := L.ρ, pκ := L.κ, base := [] } := by
  refine ⟨?_, hY.laid⟩
  intro l hl args h s Q hy L' F' vals w hh' hr
  obtain ⟨fn, tmps, asg, body, h1, h2⟩ := hY.yld l hl args h s Q hy L' F' vals w ⟨hh'.hg, hh'.csz, hh'.fresh, hh'.obj, hh'.own, hh'.inj⟩ hr
  refine ⟨fn, tmps, asg, body, h1, h2.mono ?_⟩
  rintro e w' ⟨x, he, v, h', s', L'', F'', hq, hh'', rest⟩
  exact ⟨x, he, v, h', s', L'', F'', hq, ⟨hh''.hg, hh''.csz, hh''.fresh, hh''.obj, hh''.own, hh''.inj⟩, rest⟩
 have hwp := wpA_sound hT c (drawsB_spec hm hT hdraws) ⟨enterE 0 args, h, s⟩ _ hw _ hY' none [] L F _ w hg (by rw [hsz]; exact hcode)
 have hwp : c.wpIn Fence.wide 0 P _ { tmps := vals ++ Array.replicate (fn.ntmps - vals.size) undef, defers := [] } w := hwp
 refine wpIn_mono hwp fun ex a' w' hq => ?_
 rcases hq with ⟨e', st', m', L', F', rfl, hk, hg', tr, hs⟩ | ⟨pv, e', h', s', m', L', F', rfl, hy, hg', tr, hs⟩
 case inr =>
  show LeavesInM Fence.wide 0 P fn a'.tmps _ a'.defers (.panicking [{ v := pv, recovered := false }]) w'
  rw [hg'.dfr, List.append_nil]
  refine leaves_marks_p m' hg'.heap tr hg'.mks hg'.mnd fun w'' hh'' tr'' => ?_
  obtain ⟨hy⟩ := (show RetA [] h' s' (fun _ h' s' => X pv h' s') from hy)
  obtain ⟨v, h2, L2, F2, hx, hh2, _, tr2, pin2⟩ := hy cx L' F' [] w'' ⟨hh''.hg, hh''.csz, hh''.fresh, hh''.obj, hh''.own, hh''.inj⟩ rfl
  refine .inr ⟨pv, h2, s', L2, F2, rfl, hx, hh2, Tr.trans tr (Tr.trans tr'' tr2), fun i hi => ?_⟩
  obtain ⟨p1, p2⟩ := pin2 i hi
  obtain ⟨p3, p4⟩ := hg'.pin i hi
  exact ⟨p1.trans p3, p2.trans p4⟩
 have fin : fnK T fn.results.toList Q .normal st' → LeavesInM Fence.wide 0 P fn a'.tmps (fun e w' => (∃ x, e = .returned x ∧ ∃ v h' s' L' F', Q v h' s' ∧ HeapOk cx L' F' h' s' w' ∧ RepV cx.yv L' F' w' v x ∧ Tr F w F' w' ∧ PinEq L L') ∨
   ∃ pv h' s' L' F', e = .panicked [{ v := pv, recovered := false }] ∧ X pv h' s' ∧ HeapOk cx L' F' h' s' w' ∧ Tr F w F' w' ∧ PinEq L L') a'.defers .returning w' := by
  intro hk
  rw [hg'.dfr, List.append_nil]
  refine leaves_marks m' hg'.heap tr hg'.mks hg'.mnd fun w'' hh'' tr'' => ?_
  obtain ⟨e1, h1, s1⟩ := st'
  have hk : resK T e1 h1 fn.results.toList fun l => RetA l h1 s1 Q := hk
  obtain ⟨l, ⟨hret⟩, hrun⟩ := resK_t (P := P) hT hk
  have hg'' : Good { cx with pρ := L.ρ, pκ := L.κ, base := [] } none [] L' F' ⟨e1, h1, s1⟩ { a' with defers := [] } w'' := by
   refine ⟨hh'', fun t v ht => ?_, rfl, (fun b hb => by cases hb), List.nodup_nil, (fun l hl => by cases hl), hg'.pin, hg'.tsz⟩
   obtain ⟨x, hx, hrx⟩ := hg'.env t v ht
   exact ⟨x, hx, RepV.mono tr'' v x (fun _ _ => ⟨rfl, rfl⟩) hrx⟩
  obtain ⟨vals', hres, hrep⟩ := hrun hg''
  obtain ⟨v, h', L2, F2, hq, hh2, hr2, tr2, pin2⟩ := hret cx L' F' vals' w'' ⟨hh''.hg, hh''.csz, hh''.fresh, hh''.obj, hh''.own, hh''.inj⟩ hrep
  refine ⟨_, run_results hres, .inl ⟨_, rfl, v, h', s1, L2, F2, hq, hh2, hr2, Tr.trans tr (Tr.trans tr'' tr2), fun i hi => ?_⟩⟩
  obtain ⟨p1, p2⟩ := pin2 i hi
  obtain ⟨p3, p4⟩ := hg'.pin i hi
  exact ⟨p1.trans p3, p2.trans p4⟩
 cases e' with
 | normal => exact fin hk
 | ret => exact fin hk
 | exit i => exact hk.elim
def cutO (d : Option Nat) (e : Env) : Env :=
 match d with
 | some d => cut e d
 | none => e
theorem get_cutE : ∀ {e : Env} {d s : Nat} {v : V}, get (cut e d) s = some v → s ≠ d ∧ get e s = some v
 | [], _, _, _, h => by cases h
 | (k, u) :: r, d, s, v, h => by
  simp only [cut] at h
  split at h
  ·rename_i hk
   obtain ⟨h1, h2⟩ := get_cutE h
   refine ⟨h1, ?_⟩
   simp only [get]
   split
   ·rename_i hs
    have := Nat.eq_of_beq_eq_true hk
    have := Nat.eq_of_beq_eq_true hs
    omega
   ·exact h2
  ·rename_i hk
   simp only [get] at h ⊢
   split at h
   ·rename_i hs
    refine ⟨fun e => ?_, h⟩
    subst e
    rw [hs] at hk
    cases hk
   ·exact get_cutE h
theorem Good.unput {cx : Cx σ} {r : Option Nat} {m : List Nat} {L : Loc} {F : Nat → Nat} {e : Env} {h : Heap} {s : σ} {a : Act} {w : World} {d : Option Nat} {x : Value} (hg : Good cx r m L F ⟨e, h, s⟩ (a.put d x) w) : Good cx r m L F ⟨cutO d e, h, s⟩ a w := by
 refine ⟨hg.heap, fun t v ht => ?_, ?_, hg.mks, hg.mnd, hg.lk, hg.pin, ?_⟩
 ·cases d with
  | none => exact hg.env t v ht
  | some d =>
   obtain ⟨h1, h2⟩ := get_cutE ht
   obtain ⟨y, h3, h4⟩ := hg.env t v h2
   refine ⟨y, ?_, h4⟩
   rw [← h3]
   simp [Act.put, Array.getElem?_setIfInBounds_ne (Ne.symm h1)]
 ·have := hg.dfr
  cases d <;> exact this
 ·have := hg.tsz
  cases d <;> simpa [Act.put] using this
theorem CallA_x {Y : Hd σ} {f : FuncId} {args0 : List V} {h0 : Heap} {s : σ} {Q : V → Heap → σ → Prop} {X : Value → Heap → σ → Prop} (hf : FnX P Y f args0 h0 s Q X) (tb : List Nat) {e : Env} {h : Heap} {d : Option Nat} {args : List V} {K : St σ → Prop}
  (hargs : renL (callR tb (d.getD 0)) args0 = args) (hlent : lentOk (callR tb (d.getD 0)) h 1000000 tb h0) (htb : nodupB tb = true) (hln : Nat.ble tb.length 1000 = true)
  (hq : ∀ v h1 s', Q v h1 s' → callB tb d v h1 = true ∧ applyK (callWs tb d v h1) e h fun e h => K ⟨e, h, s'⟩)
  (hx : ∀ pv h1 s', X pv h1 s' → callB tb d (.d (.tup [])) h1 = true ∧ applyK (callWs tb d (.d (.tup [])) h1) e h fun e h => Y.p pv (cutO d e) h s') : CallA P Y ⟨e, h, s⟩ d f args K := by
 refine ⟨hf.enter, fun cx hY r m L F a w vals hg hd hr => ?_⟩
 have htb := nodupB_spec htb
 have hln := Nat.le_of_ble_eq_true hln
 obtain ⟨R, hR⟩ : ∃ R, R = callR tb (d.getD 0) := ⟨_, rfl⟩
 have Rlent : ∀ k id, tb[k]? = some id → R (1000000 + k) = id := fun k id hk => by rw [hR]; exact callR_lent hk hln
 rw [← hR] at hargs hlent
 subst hargs
 have hh : SubT h (St.mk e h s).heap := fun _ _ h => h
 have hH := heap_lent hh hlent Rlent htb hg
 have hH0 : HeapOk (lendCx cx s w F (LentB R L h0)) ⟨fun i => L.ρ (R i), fun i => L.κ (R i)⟩ F h0 s w :=
  ⟨⟨hg.heap.hg, Nat.le_refl _, fun b hb hc => hc, fun b hb hl hc => ⟨rfl, rfl⟩⟩, fun b hb => hb.elim (hg.heap.csz b) (fun h => h.1), hH.fresh, hH.obj, fun i o hi hbk => ⟨(hH.own i o hi hbk).1, fun hC => hC.elim (hH.own i o hi hbk).2 fun hC => hC.2 ⟨i, o, hi, hbk, rfl⟩⟩, hH.inj⟩
 have hargs' : RepVL cx.yv ⟨fun i => L.ρ (R i), fun i => L.κ (R i)⟩ F w args0 vals.toList := (RepVL.ren (R := R) args0 _ fun _ _ => ⟨rfl, rfl⟩).1 hr
 have hcall := hf.run _ (lendCx_handles hY) _ F vals w hH0 hargs'
 refine hcall.mono ?_
 rintro en w' (⟨x, rfl, v, h', s', L', F', hq', hH', hv, tr, pin⟩ | ⟨pv, h', s', L', F', rfl, hx', hH', tr, pin⟩)
 ·obtain ⟨hB, hk⟩ := hq _ _ _ hq'
  obtain ⟨hHG, _, hCn, hkeep⟩ := hH'.hg
  obtain ⟨L2, hg2⟩ := good_after hB hR.symm hh hlent hg hd hHG (fun b hb => hH'.csz b (.inl hb)) (fun b hb hl hc => hCn b hb hc) hkeep hH'.fresh hH'.obj
   (fun i o hi hb => ⟨(hH'.own i o hi hb).1, fun hC => (hH'.own i o hi hb).2 (.inl hC), fun hlt => Classical.byContradiction fun hl => (hH'.own i o hi hb).2 (.inr ⟨hlt, hl⟩)⟩)
   hH'.inj hv tr pin
  rw [applyK_eq s'] at hk
  have hs2 : (applyWs (⟨e, h, s'⟩ : St σ) (callWs tb d v h')).s = s' := applyWs_s _ _
  refine .inl ⟨x, rfl, _, L2, F', ?_, hg2, tr⟩
  generalize applyWs (⟨e, h, s'⟩ : St σ) (callWs tb d v h') = st2 at hk hs2
  obtain ⟨e2, h2, s2⟩ := st2
  simp only at hs2
  subst hs2
  exact hk
 ·obtain ⟨hB, hk⟩ := hx _ _ _ hx'
  obtain ⟨hHG, _, hCn, hkeep⟩ := hH'.hg
  obtain ⟨L2, hg2⟩ := good_after (v := .d (.tup [])) (x := .tuple #[]) hB hR.symm hh hlent hg hd hHG (fun b hb => hH'.csz b (.inl hb)) (fun b hb hl hc => hCn b hb hc) hkeep hH'.fresh hH'.obj
   (fun i o hi hb => ⟨(hH'.own i o hi hb).1, fun hC => (hH'.own i o hi hb).2 (.inl hC), fun hlt => Classical.byContradiction fun hl => (hH'.own i o hi hb).2 (.inr ⟨hlt, hl⟩)⟩)
   hH'.inj ⟨#[], rfl, rfl⟩ tr pin
  rw [applyK_eq s'] at hk
  have hs2 : (applyWs (⟨e, h, s'⟩ : St σ) (callWs tb d (.d (.tup [])) h')).s = s' := applyWs_s _ _
  generalize applyWs (⟨e, h, s'⟩ : St σ) (callWs tb d (.d (.tup [])) h') = st2 at hk hs2 hg2
  obtain ⟨e2, h2, s2⟩ := st2
  simp only at hs2
  subst hs2
  exact .inr ⟨pv, cutO d e2, h2, s2, L2, F', rfl, hk, hg2.unput, tr⟩
end
end Go.PX
namespace Go.PX
open Go.Proofs
open Go.RowKit
def pan6 : Value := .iface 28 (.int .i64 6)
theorem ch90 (b : Bool) : FnXU Tryz.prog 90 [.d (.bool b)] [] (fun v h' => b = true ∧ v = .d (.tup []) ∧ h' = []) (fun pv h' => b = false ∧ pv = pan6 ∧ h' = []) := by
 intro σ Y st
 refine fnX_of mixed tysOk Tryz.func90 rfl (ft := ft90) (args := [.d (.bool b)]) (show fnB ft90 Tryz.f90 1 = true from by decide +kernel) ?_
 cases b with
 | true =>
  conv=>whnf
  exact RetA_hand [] [] [] rfl trivial rfl ⟨⟨rfl, rfl, rfl⟩, rfl⟩
 | false =>
  conv=>whnf
  exact RetA_hand [] [] [] rfl trivial rfl ⟨⟨rfl, rfl, rfl⟩, rfl⟩
theorem must_i {σ : Type} {Y : Hd σ} {e : Env} {h : Heap} {s : σ} {d : Option Nat} {b : Bool} {K : St σ → Prop} (hd : callB [] d (.d (.tup [])) [] = true)
  (ht : b = true → applyK (callWs [] d (.d (.tup [])) []) e h fun e h => K ⟨e, h, s⟩) (hf : b = false → applyK (callWs [] d (.d (.tup [])) []) e h fun e h => Y.p pan6 (cutO d e) h s) : CallA Tryz.prog Y ⟨e, h, s⟩ d 90 [.d (.bool b)] K := by
 refine CallA_x (ch90 b Y s) [] rfl rfl rfl rfl ?_ ?_
 ·rintro v h1 s' ⟨⟨hb, rfl, rfl⟩, rfl⟩
  exact ⟨hd, ht hb⟩
 ·rintro pv h1 s' ⟨⟨hb, rfl, rfl⟩, rfl⟩
  exact ⟨hd, hf hb⟩
def satX (s : ByteArray) : Int :=
 match Lib.atoiAll s.data.toList with
 | .range => Lib.atoiSat s.data.toList
 | _ => 0
theorem ch143_bad (s : ByteArray) (hs : s.size ≤ 1000000000) (h : atoiX s = none) : FnV Tryz.prog 143 [.str s] (.tup [i64 (satX s), .ifc 219 (.ref [])]) := by
 refine fnV_calls (enters Tryz.func143 rfl (by decide +kernel)) fun vals w F hl hf hr => ?_
 rw [str_vals hr]
 obtain ⟨t1, v1, hs1⟩ := hl.syn 4 (by kernel_rfl)
 obtain ⟨t2, v2, hs2⟩ := hl.rng 5 (by kernel_rfl)
 rcases hA : Lib.atoiAll s.data.toList with v | _ | _
 ·unfold atoiX at h
  rw [hA] at h
  cases h
 ·have hsat : satX s = 0 := by unfold satX; rw [hA]
  rw [hsat]
  refine (Any.strconv_Atoi_syntax Tryz.laysC172 s (by omega) hA _ w hs1 (.inr ⟨_, _, rfl⟩)).mono ?_
  rintro e w' ⟨N, rfl, hN, hblk, hb⟩
  exact ⟨_, rfl, Grown.of hb, F, fun _ _ => rfl, fun b hb' => hf b (Nat.le_trans hb.size hb'), _, rfl, _, _, rfl, rfl, _, _, rfl, ⟨_, rfl, _, _, rfl, trivial⟩, rfl⟩
 ·have hsat : satX s = Lib.atoiSat s.data.toList := by unfold satX; rw [hA]
  rw [hsat]
  refine (Any.strconv_Atoi_range Tryz.laysC172 s (by omega) hA _ w hs2 (.inr ⟨_, _, rfl⟩)).mono ?_
  rintro e w' ⟨N, rfl, hN, hblk, hb⟩
  exact ⟨_, rfl, Grown.of hb, F, fun _ _ => rfl, fun b hb' => hf b (Nat.le_trans hb.size hb'), _, rfl, _, _, rfl, rfl, _, _, rfl, ⟨_, rfl, _, _, rfl, trivial⟩, rfl⟩
def numW : List ByteArray → Option (Int × List ByteArray)
 | [] => none
 | x :: r => match atoiX x with
  | some n => some (n, r)
  | none => none
def wordsH (l : List ByteArray) : Heap := [(1000000, .box (.dd [wordsD l]))]
theorem ch132 (l : List ByteArray) (hl : ∀ x ∈ l, x.size ≤ 1000000000) : FnXU Tryz.prog 132 [.ptr 1000000 0] (wordsH l) (fun v h' => ∃ n r, numW l = some (n, r) ∧ v = .d (i64 n) ∧ h' = wordsH r) (fun pv h' => numW l = none ∧ pv = pan6 ∧ h' = wordsH l) := by
 intro σ Y st
 refine fnX_of mixed tysOk Tryz.func132 rfl (ft := ft132) (args := [.ptr 1000000 0]) (show fnB ft132 Tryz.f132 1 = true from by decide +kernel) ?_
 conv=>whnf
 refine must_i rfl (fun hb => ?_) (fun hb => ?_)
 ·cases l with
  | nil => cases hb
  | cons x r =>
   conv=>whnf
   cases hA : atoiX x with
   | some n =>
    refine CallA_v (ch143 x n (hl x (List.mem_cons_self ..)) hA) rfl rfl ?_
    conv=>whnf
    refine must_i rfl (fun _ => ?_) (fun h => by cases h)
    conv=>whnf
    refine chk_i (by simp; omega) ?_
    conv=>whnf
    exact RetA_hand [] [.d (i64 n)] (wordsH r) rfl ⟨by show _ = some (Obj.box (.dd [wordsD r])); refine congrArg (fun z => some (Obj.box (Cells.dd [D.vs z]))) ?_; (try simp only [List.drop_succ_cons, List.drop_zero, List.map_cons, List.length_cons, List.take_succ_cons]); exact List.take_of_length_le (by simp), trivial⟩ rfl ⟨⟨n, r, by simp [numW, hA], rfl, rfl⟩, rfl⟩
   | none =>
    refine CallA_v (ch143_bad x (hl x (List.mem_cons_self ..)) hA) rfl rfl ?_
    conv=>whnf
    refine must_i rfl (fun h => by cases h) (fun _ => ?_)
    conv=>whnf
    exact RetA_hand [] [] (wordsH (x :: r)) rfl ⟨rfl, trivial⟩ rfl ⟨⟨by simp [numW, hA], rfl, rfl⟩, rfl⟩
 ·cases l with
  | cons x r => exact absurd hb (by simp)
  | nil =>
   conv=>whnf
   exact RetA_hand [] [] (wordsH []) rfl ⟨rfl, trivial⟩ rfl ⟨⟨rfl, rfl, rfl⟩, rfl⟩
def pairW (l : List ByteArray) : Option ((Int × Int) × List ByteArray) :=
 match numW l with
 | some (a, r) => match numW r with
  | some (b, r) => some ((a, b), r)
  | none => none
 | none => none
theorem numW_mem {l r : List ByteArray} {n : Int} (h : numW l = some (n, r)) : ∃ x, l = x :: r := by
 cases l with
 | nil => cases h
 | cons x l =>
  rw [numW] at h
  split at h
  ·cases h; exact ⟨x, rfl⟩
  ·cases h
theorem ch118 (l : List ByteArray) (hl : ∀ x ∈ l, x.size ≤ 1000000000) : FnXU Tryz.prog 118 [.ptr 1000000 0] (wordsH l) (fun v h' => ∃ a b r, pairW l = some ((a, b), r) ∧ v = .d (.agg [i64 a, i64 b]) ∧ h' = wordsH r) (fun pv h' => pairW l = none ∧ pv = pan6 ∧ ∃ r, h' = wordsH r) := by
 intro σ Y st
 refine fnX_of mixed tysOk Tryz.func118 rfl (ft := ft118) (args := [.ptr 1000000 0]) (show fnB ft118 Tryz.f118 1 = true from by decide +kernel) ?_
 conv=>whnf
 refine CallA_x (ch132 l hl _ _) [1000000] rfl ⟨_, _, rfl, rfl, rfl⟩ rfl rfl ?_ ?_
 ·rintro v h1 s' ⟨⟨a, r, ha, rfl, rfl⟩, rfl⟩
  refine ⟨rfl, ?_⟩
  obtain ⟨x, rfl⟩ := numW_mem ha
  conv=>whnf
  refine CallA_x (ch132 r (fun y hy => hl y (List.mem_cons_of_mem _ hy)) _ _) [1000000] rfl ⟨_, _, rfl, rfl, rfl⟩ rfl rfl ?_ ?_
  ·rintro v h1 s' ⟨⟨b, r2, hb, rfl, rfl⟩, rfl⟩
   refine ⟨rfl, ?_⟩
   conv=>whnf
   exact RetA_hand [] [.d (.agg [i64 a, i64 b])] (wordsH r2) rfl ⟨rfl, trivial⟩ rfl ⟨⟨a, b, r2, by rw [pairW, ha]; simp only; rw [hb], rfl, rfl⟩, rfl⟩
  ·rintro pv h1 s' ⟨⟨hb, rfl, rfl⟩, rfl⟩
   refine ⟨rfl, ?_⟩
   conv=>whnf
   exact RetA_hand [] [] (wordsH r) rfl ⟨rfl, trivial⟩ rfl ⟨⟨by rw [pairW, ha]; simp only; rw [hb], rfl, r, rfl⟩, rfl⟩
 ·rintro pv h1 s' ⟨⟨ha, rfl, rfl⟩, rfl⟩
  refine ⟨rfl, ?_⟩
  conv=>whnf
  exact RetA_hand [] [] (wordsH l) rfl ⟨rfl, trivial⟩ rfl ⟨⟨by rw [pairW, ha], rfl, l, rfl⟩, rfl⟩
theorem ch119 (l : List ByteArray) (hl : ∀ x ∈ l, x.size ≤ 1000000000) : FnXU Tryz.prog 119 [.ptr 1000000 0] (wordsH l) (fun v h' => ∃ a b r, pairW l = some ((a, b), r) ∧ v = .d (.agg [i64 a, i64 b]) ∧ h' = wordsH r) (fun pv h' => pairW l = none ∧ pv = pan6 ∧ ∃ r, h' = wordsH r) := by
 intro σ Y st
 refine fnX_of mixed tysOk Tryz.func119 rfl (ft := ft119) (args := [.ptr 1000000 0]) (show fnB ft119 Tryz.f119 1 = true from by decide +kernel) ?_
 conv=>whnf
 refine CallA_x (ch132 l hl _ _) [1000000] rfl ⟨_, _, rfl, rfl, rfl⟩ rfl rfl ?_ ?_
 ·rintro v h1 s' ⟨⟨a, r, ha, rfl, rfl⟩, rfl⟩
  refine ⟨rfl, ?_⟩
  obtain ⟨x, rfl⟩ := numW_mem ha
  conv=>whnf
  refine CallA_x (ch132 r (fun y hy => hl y (List.mem_cons_of_mem _ hy)) _ _) [1000000] rfl ⟨_, _, rfl, rfl, rfl⟩ rfl rfl ?_ ?_
  ·rintro v h1 s' ⟨⟨b, r2, hb, rfl, rfl⟩, rfl⟩
   refine ⟨rfl, ?_⟩
   conv=>whnf
   exact RetA_hand [] [.d (.agg [i64 a, i64 b])] (wordsH r2) rfl ⟨rfl, trivial⟩ rfl ⟨⟨a, b, r2, by rw [pairW, ha]; simp only; rw [hb], rfl, rfl⟩, rfl⟩
  ·rintro pv h1 s' ⟨⟨hb, rfl, rfl⟩, rfl⟩
   refine ⟨rfl, ?_⟩
   conv=>whnf
   exact RetA_hand [] [] (wordsH r) rfl ⟨rfl, trivial⟩ rfl ⟨⟨by rw [pairW, ha]; simp only; rw [hb], rfl, r, rfl⟩, rfl⟩
 ·rintro pv h1 s' ⟨⟨ha, rfl, rfl⟩, rfl⟩
  refine ⟨rfl, ?_⟩
  conv=>whnf
  exact RetA_hand [] [] (wordsH l) rfl ⟨rfl, trivial⟩ rfl ⟨⟨by rw [pairW, ha], rfl, l, rfl⟩, rfl⟩
end Go.PX
namespace Go.PX
open Go.Proofs
open Go.RowKit Go.Proofs
set_option maxHeartbeats 1000000 in
set_option maxRecDepth 100000 in
theorem bld_string (b g cap : Nat) (p : Value) (s : ByteArray) (c : Array Value) (w : World) (hb : w.heap[b]? = some (.cells #[p, .slice (some ⟨g, 0, none⟩) s.size cap] 170 (0, 0))) (hg : w.heap[g]? = some (.cells c 5 (0, 0)))
  (h0 : 0 < s.size) (hcap : s.size ≤ cap) (hc : s.size ≤ c.size) (hm : s.size ≤ 140737488355328) (htake : c.toList.take s.size = byteVals s) :
  Calls Tryz.prog 114 #[.pointer (some ⟨b, 0, none⟩)] w fun e w' => e = .returned (.string s) ∧ w' = (w.drew).freeze ⟨g, 0, none⟩ s.size := by
 have c1 : w.drew.cell? ⟨b, 1, none⟩ = some (.slice (some ⟨g, 0, none⟩) s.size cap) := by
  have : w.drew.heap[b]? = some (.cells #[p, .slice (some ⟨g, 0, none⟩) s.size cap] 170 (0, 0)) := hb
  rw [Lib.cell_of_heap this]; rfl
 have hSD : (Builtin.unsafeSliceData_ #[168] 188 #[.slice (some ⟨g, 0, none⟩) s.size cap]).run Tryz.prog w.drew = .ok (.pointer (some ⟨g, 0, none⟩)) w.drew :=
  Lib.run_unsafeSliceData_row _ _ _ _ _ _ (by omega)
 have hsl : s.data.toList.length = s.size := by rw [Array.length_toList]; rfl
 have hUS : (Builtin.unsafeString_ #[188, 3] 9 #[.pointer (some ⟨g, 0, none⟩), .int .i64 s.size]).run Tryz.prog w.drew = .ok (.string s) (w.drew.freeze ⟨g, 0, none⟩ s.size) := by
  have := Lib.run_unsafeString_row (P := Tryz.prog) w.drew 188 3 9 5 Tryz.underlying188 (by kernel_rfl) g c.size (by have hg' : w.drew.heap[g]? = some (.cells c 5 (0, 0)) := hg; simp [World.shape?, hg']) s.data.toList (by intro e; rw [e] at hsl; simp at hsl; omega) (by omega) (by omega) (by
   intro j x hx
   have hj : j < s.size := by rw [← hsl]; exact (List.getElem?_eq_some_iff.1 hx).1
   have hv : (byteVals s)[j]? = some (.int .u8 x.toNat) := by simp [byteVals, hx]
   rw [← htake, List.getElem?_take_of_lt hj] at hv
   have hg' : w.drew.heap[g]? = some (.cells c 5 (0, 0)) := hg
   rw [add_none, Nat.zero_add, Lib.cell_of_heap hg']
   simpa using hv)
  rw [hsl] at this
  exact this
 go_enter Tryz.func114, Tryz.ntmps114
 go_wp2
 go_region
 all_goals (go_wp2; go_ret; exact ⟨rfl, rfl⟩)
set_option maxHeartbeats 1000000 in
set_option maxRecDepth 100000 in
theorem bld_empty (b : Nat) (p : Value) (w : World) (hb : w.heap[b]? = some (.cells #[p, .slice none 0 0] 170 (0, 0))) :
  Calls Tryz.prog 114 #[.pointer (some ⟨b, 0, none⟩)] w fun e w' => e = .returned (.string .empty) ∧ w' = w.drew := by
 have hUS : (Builtin.unsafeString_ #[188, 3] 9 #[.pointer none, .int .i64 0]).run Tryz.prog w.drew = .ok (.string .empty) w.drew := Lib.run_unsafeString_none _ _ _ _ _
 have c1 : w.drew.cell? ⟨b, 1, none⟩ = some (.slice none 0 0) := by
  have : w.drew.heap[b]? = some (.cells #[p, .slice none 0 0] 170 (0, 0)) := hb
  rw [Lib.cell_of_heap this]; rfl
 have hSD : (Builtin.unsafeSliceData_ #[168] 188 #[.slice none 0 0]).run Tryz.prog w.drew = .ok (.pointer none) w.drew := rfl
 go_enter Tryz.func114, Tryz.ntmps114
 go_wp2
 go_region
 all_goals (go_wp2; go_ret; exact ⟨rfl, rfl⟩)
end Go.PX
namespace Go.PX
open Go.Proofs
open Go.RowKit
theorem RepVL_one {yv : Option Nat} {L : Loc} {F : Nat → Nat} {w : World} {v : V} {vals : Array Value} (h : RepVL yv L F w [v] vals.toList) : ∃ x, vals = #[x] ∧ RepV yv L F w v x := by
 obtain ⟨x, l', h1, h2, h3⟩ := h
 have h3 : l' = [] := h3
 subst h3
 exact ⟨x, Array.ext' h1, h2⟩
def bldN (i : Nat) : Heap := [(i, .tb 170 [.d .nilp, .d .nils])]
def bldU (i k : Nat) (b : ByteArray) : Heap := [(i, .tb 170 [.ptr i 0, .sl k 1 0 b.size]), (k, .buf 5 b)]
theorem ch128_used (b : ByteArray) : FnU Tryz.prog 128 [.ptr 1000000 0] (bldU 1000000 1000001 b) fun v h' => v = .d (.tup []) ∧ h' = bldU 1000000 1000001 b := by
 refine fnU_calls (enters Tryz.func128 rfl (by decide +kernel)) fun {σ} cx L F s vals w hh hr => ?_
 obtain ⟨x, rfl, hx⟩ := RepVL_one hr
 have hx : x = .pointer (some ⟨L.ρ 1000000, 0, none⟩) := hx
 subst hx
 obtain ⟨c, hc, hrc⟩ := hh.obj 1000000 _ rfl
 obtain ⟨x0, l', hl, h0, _⟩ := hrc
 have h0 : x0 = .pointer (some ⟨L.ρ 1000000, 0, none⟩) := h0
 subst h0
 refine (bld_used (L.ρ 1000000) w (by rw [cell_of_row _ _ _ _ _ _ hc, ← Array.getElem?_toList, hl]; rfl)).mono ?_
 rintro e w' ⟨rfl, rfl⟩
 exact ⟨_, rfl, hh, ⟨#[], rfl, rfl⟩, Tr.refl F _⟩
theorem ch128_fresh : FnU Tryz.prog 128 [.ptr 1000000 0] (bldN 1000000) fun v h' => v = .d (.tup []) ∧ h' = [(1000000, .tb 170 [.ptr 1000000 0, .d .nils])] := by
 refine fnU_calls (enters Tryz.func128 rfl (by decide +kernel)) fun {σ} cx L F s vals w hh hr => ?_
 obtain ⟨x, rfl, hx⟩ := RepVL_one hr
 have hx : x = .pointer (some ⟨L.ρ 1000000, 0, none⟩) := hx
 subst hx
 obtain ⟨c, hc, hrc⟩ := hh.obj 1000000 _ rfl
 obtain ⟨x0, l', hl, h0, x1, l'', hl', h1, hnil⟩ := hrc
 have h0 : x0 = .pointer none := h0
 have h1 : x1 = .slice none 0 0 := h1
 have hnil : l'' = [] := hnil
 subst h0 h1 hnil hl'
 have hc' : c = #[.pointer none, .slice none 0 0] := Array.ext' hl
 subst hc'
 refine (bld_fresh (L.ρ 1000000) w (by rw [cell_of_row _ _ _ _ _ _ hc]; rfl) (by simp [World.shape?, hc]) (by simp [World.frozen?, hc])).mono ?_
 rintro e w' ⟨rfl, rfl⟩
 have hg : Good { cx with pρ := L.ρ, pκ := L.κ, base := [] } none [] L F (⟨[], bldN 1000000, s⟩ : St σ) { tmps := #[], defers := [] } w :=
  ⟨⟨hh.hg, hh.csz, hh.fresh, hh.obj, hh.own, hh.inj⟩, fun t v ht => (by cases ht), rfl, (fun b hb => by cases hb), List.nodup_nil, (fun l hl => by cases hl), fun _ _ => ⟨rfl, rfl⟩, by simp⟩
 have hblk : (w.setCell ⟨L.ρ 1000000, 0, none⟩ (.pointer (some ⟨L.ρ 1000000, 0, none⟩))).heap[L.ρ 1000000]? = some (.cells #[.pointer (some ⟨L.ρ 1000000, 0, none⟩), .slice none 0 0] 170 (0, 0)) := by
  simp [World.setCell, Array.getElem?_modify, hc]
 obtain ⟨g1, g2⟩ := hg.obj (id := 1000000) (o := .tb 170 [.ptr 1000000 0, .d .nils]) rfl trivial (w' := w.setCell ⟨L.ρ 1000000, 0, none⟩ (.pointer (some ⟨L.ρ 1000000, 0, none⟩))) rfl rfl rfl (by simp [World.setCell]) (fun b hb => by simp [World.setCell, Array.getElem?_modify, Ne.symm hb])
  (by rw [hc]; intro ds e; cases e) (by rw [hc]; intro lp e; cases e) ⟨_, hblk, _, _, rfl, rfl, _, _, rfl, rfl, rfl⟩
 have g3 := g1.heap
 exact ⟨_, rfl, ⟨g3.hg, g3.csz, g3.fresh, g3.obj, g3.own, g3.inj⟩, ⟨#[], rfl, rfl⟩, g2⟩
theorem ch114 (b : ByteArray) (h0 : 0 < b.size) (hm : b.size ≤ 140737488355328) : FnU Tryz.prog 114 [.ptr 1000000 0] (bldU 1000000 1000001 b) fun v h' => v = .d (.str b) ∧ h' = [(1000000, .tb 170 [.ptr 1000000 0, .unk])] := by
 refine fnU_calls (enters Tryz.func114 rfl (by decide +kernel)) fun {σ} cx L F s vals w hh hr => ?_
 obtain ⟨x, rfl, hx⟩ := RepVL_one hr
 have hx : x = .pointer (some ⟨L.ρ 1000000, 0, none⟩) := hx
 subst hx
 obtain ⟨c, hc, hrc⟩ := hh.obj 1000000 _ rfl
 obtain ⟨x0, l', hl, h0', x1, l'', hl', h1, hnil⟩ := hrc
 have h0' : x0 = .pointer (some ⟨L.ρ 1000000, 0, none⟩) := h0'
 have hnil : l'' = [] := hnil
 subst h0' hnil hl'
 obtain ⟨ad, cap, rfl, hcap, _, hb⟩ := h1
 rcases hb with ⟨e, _⟩ | ⟨rfl, hb⟩
 ·omega
 rw [Nat.zero_add, Nat.mul_one] at hb
 have hc' : c = #[.pointer (some ⟨L.ρ 1000000, 0, none⟩), .slice (some ⟨L.ρ 1000001, 0, none⟩) b.size cap] := Array.ext' hl
 subst hc'
 obtain ⟨c2, hc2, hk2, hs2, ht2⟩ := hh.obj 1000001 _ rfl
 refine (bld_string (L.ρ 1000000) (L.ρ 1000001) cap _ b c2 w hc hc2 h0 hcap hs2 hm ht2).mono ?_
 rintro e w' ⟨rfl, rfl⟩
 obtain ⟨q1, q2⟩ := hh.own 1000001 _ rfl trivial
 have hne : L.ρ 1000000 ≠ L.ρ 1000001 := fun e => by
  have := hh.inj 1000000 1000001 _ _ rfl rfl trivial trivial e
  omega
 have hh2 : HeapOk cx L F [(1000000, .tb 170 [.ptr 1000000 0, .unk])] s w := by
  refine ⟨hh.hg, hh.csz, hh.fresh, fun id o ho => ?_, fun id o ho hb => ?_, fun i j o p hi hj hbi hbj e => ?_⟩
  ·obtain ⟨rfl, rfl⟩ : id = 1000000 ∧ o = .tb 170 [.ptr 1000000 0, .unk] := by
    simp only [get] at ho
    split at ho
    ·rename_i he; cases ho; exact ⟨(Nat.eq_of_beq_eq_true he).symm, rfl⟩
    ·cases ho
   exact ⟨_, hc, _, _, rfl, rfl, _, _, rfl, rfl, rfl⟩
  ·obtain ⟨rfl, rfl⟩ : id = 1000000 ∧ o = .tb 170 [.ptr 1000000 0, .unk] := by
    simp only [get] at ho
    split at ho
    ·rename_i he; cases ho; exact ⟨(Nat.eq_of_beq_eq_true he).symm, rfl⟩
    ·cases ho
   exact hh.own 1000000 _ rfl trivial
  ·simp only [get] at hi hj
   split at hi
   ·rename_i he
    split at hj
    ·rename_i he2
     rw [← Nat.eq_of_beq_eq_true he, ← Nat.eq_of_beq_eq_true he2]
    ·cases hj
   ·cases hi
 obtain ⟨r1, r2⟩ := hh2.turn (w' := w.drew.freeze ⟨L.ρ 1000001, 0, none⟩ b.size) (L.ρ 1000001) q1 q2 (by simp [World.freeze]; split <;> rfl) (by simp [World.freeze]; split <;> rfl) (by simp [World.freeze]; split <;> rfl) (by simp [World.freeze]; split <;> simp)
  (fun x hx => by
   simp only [World.freeze]
   split
   ·rfl
   ·simp [Array.getElem?_modify, Ne.symm hx]; rfl) (fun id o ho hb e => by
   simp only [get] at ho
   split at ho
   ·rename_i he
    rw [← Nat.eq_of_beq_eq_true he] at e
    exact hne e
   ·cases ho)
 exact ⟨_, rfl, r1, rfl, r2⟩
theorem ch114_new : FnU Tryz.prog 114 [.ptr 1000000 0] (bldN 1000000) fun v h' => v = .d (.str .empty) ∧ h' = bldN 1000000 := by
 refine fnU_calls (enters Tryz.func114 rfl (by decide +kernel)) fun {σ} cx L F s vals w hh hr => ?_
 obtain ⟨x, rfl, hx⟩ := RepVL_one hr
 have hx : x = .pointer (some ⟨L.ρ 1000000, 0, none⟩) := hx
 subst hx
 obtain ⟨c, hc, hrc⟩ := hh.obj 1000000 _ rfl
 obtain ⟨x0, l', hl, h0, x1, l'', hl', h1, hnil⟩ := hrc
 have h1 : x1 = .slice none 0 0 := h1
 have hnil : l'' = [] := hnil
 subst h1 hnil hl'
 have hc' : c = #[x0, .slice none 0 0] := Array.ext' hl
 subst hc'
 refine (bld_empty (L.ρ 1000000) x0 w hc).mono ?_
 rintro e w' ⟨rfl, rfl⟩
 exact ⟨_, rfl, hh.same rfl rfl rfl rfl, rfl, Tr.drew _⟩
end Go.PX
namespace Go.PX
open Go.Proofs
open Go.RowKit
def wsRes (s : ByteArray) : D := .tup [i64 s.size, .nili]
theorem ch111_new (s : ByteArray) (h0 : 0 < s.size) (hm : s.size ≤ 140737488355328) : FnU Tryz.prog 111 [.ptr 1000000 0, .d (.str s)] (bldN 1000000) fun v h' => v = .d (wsRes s) ∧ h' = bldU 1000000 2000000 s := by
 intro σ Y st
 refine fnC_of mixed tysOk Tryz.func111 rfl (ft := ft111) (args := [.ptr 1000000 0, .d (.str s)]) (show fnB ft111 Tryz.f111 2 = true from by decide +kernel) ?_
 conv=>whnf
 refine CallA_fn ch128_fresh [1000000] rfl ⟨_, _, rfl, rfl, rfl⟩ rfl ?_
 conv=>whnf
 refine chk_i (by simp [h0, hm]) ?_
 conv=>whnf
 exact RetA_hand [14] [.d (i64 s.size), .d .nili] (bldU 1000000 2000000 s) rfl ⟨rfl, rfl, trivial⟩ rfl ⟨⟨rfl, rfl⟩, rfl⟩
theorem ch111 (b s : ByteArray) (h0 : 0 < b.size) (hm : b.size + s.size ≤ 140737488355328) : FnU Tryz.prog 111 [.ptr 1000000 0, .d (.str s)] (bldU 1000000 1000001 b) fun v h' => v = .d (wsRes s) ∧ h' = bldU 1000000 2000000 (b ++ s) := by
 intro σ Y st
 refine fnC_of mixed tysOk Tryz.func111 rfl (ft := ft111) (args := [.ptr 1000000 0, .d (.str s)]) (show fnB ft111 Tryz.f111 2 = true from by decide +kernel) ?_
 conv=>whnf
 refine CallA_fn (ch128_used b) [1000000, 1000001] rfl ⟨_, _, rfl, rfl, _, _, rfl, rfl, rfl⟩ rfl ?_
 conv=>whnf
 refine chk_i (by simp [h0, hm]) ?_
 conv=>whnf
 exact RetA_hand [14] [.d (i64 s.size), .d .nili] (bldU 1000000 2000000 (b ++ s)) rfl ⟨rfl, rfl, trivial⟩ rfl ⟨⟨rfl, rfl⟩, rfl⟩
theorem ch113 (b : ByteArray) (h0 : 0 < b.size) (hm : b.size + 1 ≤ 140737488355328) : FnU Tryz.prog 113 [.ptr 1000000 0, .d (.int .u8 10)] (bldU 1000000 1000001 b) fun v h' => v = .d .nili ∧ h' = bldU 1000000 2000000 (b ++ ⟨#[10]⟩) := by
 intro σ Y st
 refine fnC_of mixed tysOk Tryz.func113 rfl (ft := ft113) (args := [.ptr 1000000 0, .d (.int .u8 10)]) (show fnB ft113 Tryz.f113 2 = true from by decide +kernel) ?_
 conv=>whnf
 refine CallA_fn (ch128_used b) [1000000, 1000001] rfl ⟨_, _, rfl, rfl, _, _, rfl, rfl, rfl⟩ rfl ?_
 conv=>whnf
 refine chk_i (by simp [h0]; exact hm) ?_
 conv=>whnf
 exact RetA_hand [14] [.d .nili] (bldU 1000000 2000000 (b ++ ⟨#[10]⟩)) rfl ⟨rfl, rfl, trivial⟩ rfl ⟨⟨rfl, rfl⟩, rfl⟩
end Go.PX
namespace Go.PX
open Go.Proofs
def spB : ByteArray := ⟨#[32]⟩
def nlB : ByteArray := ⟨#[10]⟩
def numsB : List Int → ByteArray
 | [] => .empty
 | n :: r => (spB ++ numB n) ++ numsB r
def headB (w n : ByteArray) : ByteArray := (w ++ spB) ++ n
def lineB (w n : ByteArray) (l : List Int) : ByteArray := headB w n ++ numsB l ++ nlB
theorem ba_assoc (a b c : ByteArray) : a ++ b ++ c = a ++ (b ++ c) := by simp [ByteArray.append_assoc]
theorem ba_size (a b : ByteArray) : (a ++ b).size = a.size + b.size := by simp
theorem ba_nil (a : ByteArray) : a ++ ByteArray.empty = a := by simp
theorem numsB_size : ∀ (l : List Int), (numsB l).size ≤ 21 * l.length
 | [] => Nat.zero_le _
 | n :: r => by
  have h1 := numsB_size r
  have h2 := numB_size n
  have h3 : spB.size = 1 := rfl
  rw [numsB, ba_size, ba_size, List.length_cons]
  omega
def In18 (n : Int) : Prop := -1000000000000000000 ≤ n ∧ n ≤ 1000000000000000000
theorem ch110 (b w n : ByteArray) (l : List Int) (h0 : 0 < b.size) (h18 : ∀ n ∈ l, In18 n) (hll : l.length ≤ 1000000) (hm : b.size + (lineB w n l).size ≤ 140737488355328) :
  FnU Tryz.prog 110 [.d (.str w), .d (.str n), .d (intsD l), .ptr 1000000 0] (bldU 1000000 1000001 b) fun v h' => v = .d (.tup []) ∧ h' = bldU 1000000 2000000 (b ++ lineB w n l) := by
 intro σ Y st
 refine fnC_of mixed tysOk Tryz.func110 rfl (ft := ft110) (args := [.d (.str w), .d (.str n), .d (intsD l), .ptr 1000000 0]) (show fnB ft110 Tryz.f110 4 = true from by decide +kernel) ?_
 have hw : (lineB w n l).size = w.size + 1 + n.size + (numsB l).size + 1 := by simp only [lineB, headB, ba_size]; rfl
 conv=>whnf
 refine chk_i (decide_eq_true (by show w.size + 1 ≤ _; omega)) ?_
 conv=>whnf
 refine chk_i (decide_eq_true (by rw [ba_size]; show w.size + 1 + n.size ≤ _; omega)) ?_
 conv=>whnf
 refine CallA_fn (ch111 b (headB w n) h0 (by simp only [headB, ba_size]; show b.size + (w.size + 1 + n.size) ≤ _; omega)) [1000000, 1000001] rfl ⟨_, _, rfl, rfl, _, _, rfl, rfl, rfl⟩ rfl ?_
 conv=>whnf
 have hh : (headB w n).size = w.size + 1 + n.size := by simp only [headB, ba_size]; rfl
 obtain ⟨tot, htot⟩ : ∃ tot, tot = b ++ headB w n ++ numsB l := ⟨_, rfl⟩
 have hts : tot.size + 1 ≤ 140737488355328 := by rw [htot]; simp only [ba_size, hh]; omega
 refine LoopA_i (T := tys) tysOk (by exact drawsB_spec mixed tysOk (by decide +kernel)) l (fun i (acc : ByteArray) => ⟨[(3, .ptr 1000000 0), (14, .d (intsD l)), (15, .d (i64 l.length)), (16, .d (i64 i))], bldU 1000000 900000 acc, st⟩) (fun i r acc => 0 < acc.size ∧ acc ++ numsB r = tot) (b ++ headB w n) ?wk ⟨by simp only [ba_size, hh]; omega, htot.symm⟩ ?round ?fin
 case wk => exact (Wk.move 100832 900000 rfl rfl).trans (Wk.sub ⟨rfl, rfl, congrArg (fun z : Nat => some (V.d (i64 z))) (by simp), rfl, trivial⟩ ⟨rfl, rfl, trivial⟩)
 ·rintro i x r acc hx hi hir ⟨ha, hacc⟩
  have hsz : acc.size + (1 + (numB x).size) + (numsB r).size = tot.size := by
   rw [← hacc, numsB]; simp only [ba_size]; show _ = acc.size + (1 + _ + _); omega
  conv=>whnf
  refine brk_i (fun _ => ?_) (fun h1 => absurd h1 (by simp; omega))
  conv=>whnf
  refine elemK_nat hx ?_
  conv=>whnf
  refine CallA_v (ch112 x (h18 x (List.mem_of_getElem? hx))) rfl rfl ?_
  conv=>whnf
  refine chk_i (decide_eq_true (by show 1 + _ ≤ _; omega)) ?_
  conv=>whnf
  refine CallA_fn (ch111 acc (spB ++ numB x) ha (by rw [ba_size]; show acc.size + (1 + _) ≤ _; omega)) [1000000, 900000] rfl ⟨_, _, rfl, rfl, _, _, rfl, rfl, rfl⟩ rfl ?_
  conv=>whnf
  refine arith_in (wrap_i64 (by (try dsimp only); omega)) ?_
  conv=>whnf
  exact ⟨acc ++ (spB ++ numB x), ⟨by rw [ba_size]; omega, by rw [← hacc, numsB, ba_assoc]⟩, (Wk.move 101472 900000 rfl rfl).trans (Wk.sub ⟨rfl, rfl, rfl, rfl, trivial⟩ ⟨rfl, rfl, trivial⟩)⟩
 ·rintro acc ⟨ha, hacc⟩
  rw [numsB, ba_nil] at hacc
  subst hacc
  conv=>whnf
  refine brk_i (fun h1 => absurd h1 (by simp)) (fun _ => ?_)
  conv=>whnf
  refine CallA_fn (ch113 acc ha hts) [1000000, 900000] rfl ⟨_, _, rfl, rfl, _, _, rfl, rfl, rfl⟩ rfl ?_
  conv=>whnf
  have he : b ++ lineB w n l = acc ++ nlB := by rw [htot]; simp only [lineB, ba_assoc]
  rw [he]
  exact RetA_hand [101600] [] (bldU 1000000 2000000 (acc ++ nlB)) rfl ⟨rfl, rfl, trivial⟩ rfl ⟨⟨rfl, rfl⟩, rfl⟩
theorem ch110_new (w n : ByteArray) (l : List Int) (h18 : ∀ n ∈ l, In18 n) (hll : l.length ≤ 1000000) (hm : (lineB w n l).size ≤ 140737488355328) :
  FnU Tryz.prog 110 [.d (.str w), .d (.str n), .d (intsD l), .ptr 1000000 0] (bldN 1000000) fun v h' => v = .d (.tup []) ∧ h' = bldU 1000000 2000000 (lineB w n l) := by
 intro σ Y st
 refine fnC_of mixed tysOk Tryz.func110 rfl (ft := ft110) (args := [.d (.str w), .d (.str n), .d (intsD l), .ptr 1000000 0]) (show fnB ft110 Tryz.f110 4 = true from by decide +kernel) ?_
 have hw : (lineB w n l).size = w.size + 1 + n.size + (numsB l).size + 1 := by simp only [lineB, headB, ba_size]; rfl
 conv=>whnf
 refine chk_i (decide_eq_true (by show w.size + 1 ≤ _; omega)) ?_
 conv=>whnf
 refine chk_i (decide_eq_true (by rw [ba_size]; show w.size + 1 + n.size ≤ _; omega)) ?_
 conv=>whnf
 refine CallA_fn (ch111_new (headB w n) (by simp only [headB, ba_size]; show 0 < w.size + 1 + n.size; omega) (by simp only [headB, ba_size]; show (w.size + 1 + n.size) ≤ _; omega)) [1000000] rfl ⟨_, _, rfl, rfl, rfl⟩ rfl ?_
 conv=>whnf
 have hh : (headB w n).size = w.size + 1 + n.size := by simp only [headB, ba_size]; rfl
 obtain ⟨tot, htot⟩ : ∃ tot, tot = headB w n ++ numsB l := ⟨_, rfl⟩
 have hts : tot.size + 1 ≤ 140737488355328 := by rw [htot]; simp only [ba_size, hh]; omega
 refine LoopA_i (T := tys) tysOk (by exact drawsB_spec mixed tysOk (by decide +kernel)) l (fun i (acc : ByteArray) => ⟨[(3, .ptr 1000000 0), (14, .d (intsD l)), (15, .d (i64 l.length)), (16, .d (i64 i))], bldU 1000000 900000 acc, st⟩) (fun i r acc => 0 < acc.size ∧ acc ++ numsB r = tot) (headB w n) ?wk ⟨by simp only [ba_size, hh]; omega, htot.symm⟩ ?round ?fin
 case wk => exact (Wk.move 100832 900000 rfl rfl).trans (Wk.sub ⟨rfl, rfl, congrArg (fun z : Nat => some (V.d (i64 z))) (by simp), rfl, trivial⟩ ⟨rfl, rfl, trivial⟩)
 ·rintro i x r acc hx hi hir ⟨ha, hacc⟩
  have hsz : acc.size + (1 + (numB x).size) + (numsB r).size = tot.size := by
   rw [← hacc, numsB]; simp only [ba_size]; show _ = acc.size + (1 + _ + _); omega
  conv=>whnf
  refine brk_i (fun _ => ?_) (fun h1 => absurd h1 (by simp; omega))
  conv=>whnf
  refine elemK_nat hx ?_
  conv=>whnf
  refine CallA_v (ch112 x (h18 x (List.mem_of_getElem? hx))) rfl rfl ?_
  conv=>whnf
  refine chk_i (decide_eq_true (by show 1 + _ ≤ _; omega)) ?_
  conv=>whnf
  refine CallA_fn (ch111 acc (spB ++ numB x) ha (by rw [ba_size]; show acc.size + (1 + _) ≤ _; omega)) [1000000, 900000] rfl ⟨_, _, rfl, rfl, _, _, rfl, rfl, rfl⟩ rfl ?_
  conv=>whnf
  refine arith_in (wrap_i64 (by (try dsimp only); omega)) ?_
  conv=>whnf
  exact ⟨acc ++ (spB ++ numB x), ⟨by rw [ba_size]; omega, by rw [← hacc, numsB, ba_assoc]⟩, (Wk.move 101472 900000 rfl rfl).trans (Wk.sub ⟨rfl, rfl, rfl, rfl, trivial⟩ ⟨rfl, rfl, trivial⟩)⟩
 ·rintro acc ⟨ha, hacc⟩
  rw [numsB, ba_nil] at hacc
  subst hacc
  conv=>whnf
  refine brk_i (fun h1 => absurd h1 (by simp)) (fun _ => ?_)
  conv=>whnf
  refine CallA_fn (ch113 acc ha hts) [1000000, 900000] rfl ⟨_, _, rfl, rfl, _, _, rfl, rfl, rfl⟩ rfl ?_
  conv=>whnf
  have he : lineB w n l = acc ++ nlB := by rw [htot]; simp only [lineB, ba_assoc]
  rw [he]
  exact RetA_hand [101600] [] (bldU 1000000 2000000 (acc ++ nlB)) rfl ⟨rfl, rfl, trivial⟩ rfl ⟨⟨rfl, rfl⟩, rfl⟩
end Go.PX
namespace Go.PX
open Go.Proofs
def bldO (i k : Nat) (acc : ByteArray) : Heap := if acc.size = 0 then bldN i else bldU i k acc
def markW : ByteArray := ⟨#[109, 97, 114, 107]⟩
def sandW : ByteArray := ⟨#[115, 97, 110, 100]⟩
def paintsN (l : List Paint) : List Int := l.flatMap fun p => [p.day, p.colour]
def ptsN (l : List Pt) : List Int := l.flatMap fun p => [p.x, p.y]
def markN (m : Mark) : List Int := [m.at'.x, m.at'.y] ++ paintsN m.paints
def sandN (s : Sand) : List Int := [s.moves.x.lo, s.moves.x.hi, s.moves.y.lo, s.moves.y.hi] ++ ptsN s.corners
def markT (m : Mark) : ByteArray := lineB markW m.name (markN m)
def sandT (s : Sand) : ByteArray := lineB sandW s.name (sandN s)
def catB : List ByteArray → ByteArray
 | [] => .empty
 | x :: r => x ++ catB r
def chtT (c : Cht) : ByteArray := catB (c.marks.map markT) ++ catB (c.sands.map sandT)
structure NmR (c : Cht) : Prop where
 mark : ∀ m ∈ c.marks, m.name.size ≤ 20
 sand : ∀ s ∈ c.sands, s.name.size ≤ 20
theorem lineB_size (w n : ByteArray) (l : List Int) : (lineB w n l).size ≤ w.size + n.size + 2 + 21 * l.length ∧ 0 < (lineB w n l).size := by
 have := numsB_size l
 have e : (lineB w n l).size = w.size + 1 + n.size + (numsB l).size + 1 := by simp only [lineB, headB, ba_size]; rfl
 omega
theorem catB_size : ∀ (l : List ByteArray) (k : Nat), (∀ x ∈ l, x.size ≤ k) → (catB l).size ≤ k * l.length
 | [], _, _ => Nat.zero_le _
 | x :: r, k, h => by
  have h1 := catB_size r k fun y hy => h y (List.mem_cons_of_mem _ hy)
  have h2 := h x (List.mem_cons_self ..)
  rw [catB, ba_size, List.length_cons, Nat.mul_succ]
  omega
theorem paintsN_len (l : List Paint) : (paintsN l).length = 2 * l.length := by
 induction l with
 | nil => rfl
 | cons p r ih => simp only [paintsN, List.flatMap_cons, List.length_append, List.length_cons, List.length_nil] at ih ⊢; omega
theorem ptsN_len (l : List Pt) : (ptsN l).length = 2 * l.length := by
 induction l with
 | nil => rfl
 | cons p r ih => simp only [ptsN, List.flatMap_cons, List.length_append, List.length_cons, List.length_nil] at ih ⊢; omega
theorem paintL_ok : ∀ {l : List Paint} {last : Int}, paintL last l = 0 → ∀ p ∈ l, 0 ≤ p.day ∧ p.day ≤ 40000 ∧ 0 ≤ p.colour ∧ p.colour ≤ 4
 | [], _, _, p, hp => by cases hp
 | x :: r, last, h, p, hp => by
  rw [paintL] at h
  split at h
  case isFalse => cases h
  rename_i h1
  split at h
  ·cases h
  rw [Bool.and_eq_true, inB_iff, inB_iff] at h1
  rcases List.mem_cons.1 hp with rfl | hp
  ·omega
  ·exact paintL_ok h p hp
theorem paintE_ok {l : List Paint} (h : paintE l = 0) : l.length ≤ 4 ∧ ∀ p ∈ l, 0 ≤ p.day ∧ p.day ≤ 40000 ∧ 0 ≤ p.colour ∧ p.colour ≤ 4 := by
 unfold paintE at h
 split at h
 case isFalse => cases h
 rename_i h1
 rw [inB_iff] at h1
 exact ⟨by omega, paintL_ok h⟩
def intsC (l : List Int) : List (List D) := l.map fun n => [i64 n]
theorem chtT_size {c : Cht} (hR : ChtR c) (hN : NmR c) : (chtT c).size ≤ 12000 := by
 have h1 := catB_size (c.marks.map markT) 1000 (by
  intro x hx
  obtain ⟨y, hy, rfl⟩ := List.mem_map.1 hx
  have h2 := (lineB_size markW y.name (markN y)).1
  have h3 := (paintE_ok (hR.mark y hy).2).1
  have h4 := hN.mark y hy
  have h5 : (markN y).length = 2 + 2 * y.paints.length := by simp [markN, paintsN_len]; omega
  have : markW.size = 4 := rfl
  show (lineB markW y.name (markN y)).size ≤ _
  omega)
 have h2 := catB_size (c.sands.map sandT) 1000 (by
  intro x hx
  obtain ⟨y, hy, rfl⟩ := List.mem_map.1 hx
  have h2 := (lineB_size sandW y.name (sandN y)).1
  have h3 := (hR.sand y hy).len
  have h4 := hN.sand y hy
  have h5 : (sandN y).length = 4 + 2 * y.corners.length := by simp [sandN, ptsN_len]; omega
  have : sandW.size = 4 := rfl
  show (lineB sandW y.name (sandN y)).size ≤ _
  omega)
 have := hR.marks
 have := hR.sands
 rw [List.length_map] at h1 h2
 rw [chtT, ba_size]
 omega
set_option maxHeartbeats 4000000 in
theorem ch86 (c : Cht) (hR : ChtR c) (hN : NmR c) : FnV Tryz.prog 86 [c.d] (.str (chtT c)) := by
 refine fnV_of mixed tysOk Tryz.func86 rfl (ft := ft86) 1 (by decide +kernel) (by rfl) fun {σ} Y st => ?_
 conv=>whnf
 refine LoopA_i (T := tys) tysOk (by exact drawsB_spec mixed tysOk (by decide +kernel)) c.marks (fun i (acc : ByteArray) => ⟨[(1, .ptr 1 0), (3, .ptr 3 0), (4, .clo 110 [.ptr 3 0]), (17, .d (marksD c.marks)), (18, .d (i64 c.marks.length)), (19, .d (i64 i))], (1, .box (.dd c.cells)) :: bldO 3 900000 acc, st⟩) (fun i r acc => acc ++ catB (r.map markT) = catB (c.marks.map markT)) .empty ?wk ?j0 ?round ?fin
 case wk => exact Wk.sub ⟨rfl, rfl, rfl, rfl, congrArg (fun z : Nat => some (V.d (i64 z))) (by simp), rfl, trivial⟩ ⟨rfl, rfl, trivial⟩
 case j0 => simp
 ·rintro i m r acc hmi hi hir hacc
  have hmm := List.mem_of_getElem? hmi
  obtain ⟨hp, hpt⟩ := hR.mark m hmm
  obtain ⟨hpl, hpi⟩ := paintE_ok hpt
  have hmn : (markN m).length = 2 + 2 * m.paints.length := by simp [markN, paintsN_len]; omega
  have h18 : ∀ n ∈ markN m, In18 n := by
   intro n hn
   simp only [markN, paintsN, List.mem_append, List.mem_cons, List.not_mem_nil, or_false, List.mem_flatMap] at hn
   rcases hn with (rfl | rfl) | ⟨p, hpm, rfl | rfl⟩
   ·have := hp.x; unfold In18; omega
   ·have := hp.y; unfold In18; omega
   ·have := hpi p hpm; unfold In18; omega
   ·have := hpi p hpm; unfold In18; omega
  have hnm := hN.mark m hmm
  have hml := hR.marks
  have hasz : acc.size ≤ 10000 := by
   have h1 := catB_size (c.marks.map markT) 1000 (by
    intro x hx
    obtain ⟨y, hy, rfl⟩ := List.mem_map.1 hx
    have h2 := (lineB_size markW y.name (markN y)).1
    have h3 := (paintE_ok (hR.mark y hy).2).1
    have h4 := hN.mark y hy
    have h5 : (markN y).length = 2 + 2 * y.paints.length := by simp [markN, paintsN_len]; omega
    have : markW.size = 4 := rfl
    show (lineB markW y.name (markN y)).size ≤ _
    omega)
   have h2 := hR.marks
   have h3 := congrArg ByteArray.size hacc
   rw [ba_size] at h3
   rw [List.length_map] at h1
   omega
  by_cases ha : acc.size = 0
  ·have hb : bldO 3 900000 acc = bldN 3 := if_pos ha
   rw [hb]
   have ha0 : acc = .empty := by
    cases acc with
    | mk d => 
     have : d = #[] := Array.eq_empty_of_size_eq_zero ha
     rw [this]; rfl
   conv=>whnf
   refine brk_i (fun _ => ?_) (fun h1 => absurd h1 (by simp; omega))
   conv=>whnf
   refine elemK_nat hmi ?_
   conv=>whnf
   refine LoopA_i (T := tys) tysOk (by exact drawsB_spec mixed tysOk (by decide +kernel)) m.paints (fun j (ns : List Int) => ⟨[(1, .ptr 1 0), (3, .ptr 3 0), (4, .clo 110 [.ptr 3 0]), (17, .d (marksD c.marks)), (18, .d (i64 c.marks.length)), (19, .d (i64 i)), (6, .ptr 6 0), (7, .sl 900001 1 0 ns.length), (31, .d (paintsD m.paints)), (32, .d (i64 m.paints.length)), (33, .d (i64 j))], (1, .box (.dd c.cells)) :: (6, .box (.dd m.cells)) :: (900001, .arr 1 (.dd (intsC ns))) :: bldN 3, st⟩) (fun j rr ns => ns ++ paintsN rr = markN m) [m.at'.x, m.at'.y] ?_ rfl ?_ ?_
   ·exact (Wk.move 29 900001 rfl rfl).trans (Wk.sub ⟨rfl, rfl, rfl, rfl, rfl, rfl, rfl, rfl, rfl, congrArg (fun z : Nat => some (V.d (i64 z))) (by simp), rfl, trivial⟩ ⟨rfl, rfl, rfl, ⟨rfl, trivial⟩⟩)
   ·rintro j x rr ns hxj hj hjr hns
    have hnl : ns.length + 2 ≤ (markN m).length := by rw [← hns]; simp [paintsN]
    conv=>whnf
    refine brk_i (fun _ => ?_) (fun h1 => absurd h1 (by simp; omega))
    conv=>whnf
    refine elemK_nat hxj ?_
    conv=>whnf
    refine ownK_whole rfl ?_
    conv=>whnf
    refine ownK_whole (by simp [Els.len, intsC]) ?_
    conv=>whnf
    refine chk_i (decide_eq_true (by show ((intsC ns).length + 2) * 8 ≤ _; simp only [intsC, List.length_map]; omega)) ?_
    conv=>whnf
    refine arith_in (wrap_i64 (by (try dsimp only); omega)) ?_
    conv=>whnf
    refine ⟨ns ++ [x.day, x.colour], by rw [← hns]; simp [paintsN], (Wk.move 43 900001 rfl rfl).trans (Wk.sub ⟨rfl, rfl, rfl, rfl, rfl, rfl, rfl, congrArg (fun z : Nat => some (V.sl 900001 1 0 z)) (by simp [Els.len, intsC]), rfl, rfl, rfl, trivial⟩ ⟨rfl, rfl, congrArg (fun z => some (Obj.arr 1 (.dd z))) (by simp [intsC]), ⟨rfl, trivial⟩⟩)⟩
   ·rintro ns hns
    have hns : ns = markN m := by rw [← hns]; simp [paintsN]
    subst hns
    conv=>whnf
    refine brk_i (fun h1 => absurd h1 (by simp)) (fun _ => ?_)
    conv=>whnf
    refine CallA_frzP 1 [900001] (args' := [.d (.str markW), .d (.str m.name), .d (intsD (markN m)), .ptr 3 0]) (by
     show [_, _, repl _ (.sl 900001 1 0 (markN m).length), _] = _
     rw [repl_sl (d := intsD (markN m)) (viewV_sl rfl (by simp [intsC]))]; rfl) rfl ?_
    refine CallA_fn (ch110_new markW m.name (markN m) h18 (by omega) (by have := (lineB_size markW m.name (markN m)).1; have : markW.size = 4 := rfl; omega)) [3] rfl ⟨_, _, rfl, rfl, rfl⟩ rfl ?_
    conv=>whnf
    refine arith_in (wrap_i64 (by (try dsimp only); omega)) ?_
    conv=>whnf
    have hbo : bldO 3 900000 (acc ++ markT m) = bldU 3 900000 (markT m) := by
     have h2 : 0 < (markT m).size := (lineB_size markW m.name (markN m)).2
     rw [(show acc ++ markT m = markT m from by rw [ha0]; simp)]
     refine if_neg ?_
     try rw [ba_size]
     omega
    refine ⟨acc ++ markT m, by rw [← hacc, List.map_cons, catB, ba_assoc], ?_⟩
    rw [hbo]
    exact (Wk.move 103136 900000 rfl rfl).trans (Wk.sub ⟨rfl, rfl, rfl, rfl, rfl, rfl, trivial⟩ ⟨rfl, rfl, rfl, trivial⟩)
  ·have hb : bldO 3 900000 acc = bldU 3 900000 acc := if_neg ha
   rw [hb]
   conv=>whnf
   refine brk_i (fun _ => ?_) (fun h1 => absurd h1 (by simp; omega))
   conv=>whnf
   refine elemK_nat hmi ?_
   conv=>whnf
   refine LoopA_i (T := tys) tysOk (by exact drawsB_spec mixed tysOk (by decide +kernel)) m.paints (fun j (ns : List Int) => ⟨[(1, .ptr 1 0), (3, .ptr 3 0), (4, .clo 110 [.ptr 3 0]), (17, .d (marksD c.marks)), (18, .d (i64 c.marks.length)), (19, .d (i64 i)), (6, .ptr 6 0), (7, .sl 900001 1 0 ns.length), (31, .d (paintsD m.paints)), (32, .d (i64 m.paints.length)), (33, .d (i64 j))], (1, .box (.dd c.cells)) :: (6, .box (.dd m.cells)) :: (900001, .arr 1 (.dd (intsC ns))) :: bldU 3 900000 acc, st⟩) (fun j rr ns => ns ++ paintsN rr = markN m) [m.at'.x, m.at'.y] ?_ rfl ?_ ?_
   ·exact (Wk.move 29 900001 rfl rfl).trans (Wk.sub ⟨rfl, rfl, rfl, rfl, rfl, rfl, rfl, rfl, rfl, congrArg (fun z : Nat => some (V.d (i64 z))) (by simp), rfl, trivial⟩ ⟨rfl, rfl, rfl, ⟨rfl, rfl, trivial⟩⟩)
   ·rintro j x rr ns hxj hj hjr hns
    have hnl : ns.length + 2 ≤ (markN m).length := by rw [← hns]; simp [paintsN]
    conv=>whnf
    refine brk_i (fun _ => ?_) (fun h1 => absurd h1 (by simp; omega))
    conv=>whnf
    refine elemK_nat hxj ?_
    conv=>whnf
    refine ownK_whole rfl ?_
    conv=>whnf
    refine ownK_whole (by simp [Els.len, intsC]) ?_
    conv=>whnf
    refine chk_i (decide_eq_true (by show ((intsC ns).length + 2) * 8 ≤ _; simp only [intsC, List.length_map]; omega)) ?_
    conv=>whnf
    refine arith_in (wrap_i64 (by (try dsimp only); omega)) ?_
    conv=>whnf
    refine ⟨ns ++ [x.day, x.colour], by rw [← hns]; simp [paintsN], (Wk.move 43 900001 rfl rfl).trans (Wk.sub ⟨rfl, rfl, rfl, rfl, rfl, rfl, rfl, congrArg (fun z : Nat => some (V.sl 900001 1 0 z)) (by simp [Els.len, intsC]), rfl, rfl, rfl, trivial⟩ ⟨rfl, rfl, congrArg (fun z => some (Obj.arr 1 (.dd z))) (by simp [intsC]), ⟨rfl, rfl, trivial⟩⟩)⟩
   ·rintro ns hns
    have hns : ns = markN m := by rw [← hns]; simp [paintsN]
    subst hns
    conv=>whnf
    refine brk_i (fun h1 => absurd h1 (by simp)) (fun _ => ?_)
    conv=>whnf
    refine CallA_frzP 1 [900001] (args' := [.d (.str markW), .d (.str m.name), .d (intsD (markN m)), .ptr 3 0]) (by
     show [_, _, repl _ (.sl 900001 1 0 (markN m).length), _] = _
     rw [repl_sl (d := intsD (markN m)) (viewV_sl rfl (by simp [intsC]))]; rfl) rfl ?_
    refine CallA_fn (ch110 acc markW m.name (markN m) (by omega) h18 (by omega) (by have := (lineB_size markW m.name (markN m)).1; have : markW.size = 4 := rfl; omega)) [3, 900000] rfl ⟨_, _, rfl, rfl, _, _, rfl, rfl, rfl⟩ rfl ?_
    conv=>whnf
    refine arith_in (wrap_i64 (by (try dsimp only); omega)) ?_
    conv=>whnf
    have hbo : bldO 3 900000 (acc ++ markT m) = bldU 3 900000 (acc ++ markT m) := by
     have h2 : 0 < (markT m).size := (lineB_size markW m.name (markN m)).2
     rw [(show acc ++ markT m = acc ++ markT m from rfl)]
     refine if_neg ?_
     try rw [ba_size]
     omega
    refine ⟨acc ++ markT m, by rw [← hacc, List.map_cons, catB, ba_assoc], ?_⟩
    rw [hbo]
    exact (Wk.move 103136 900000 rfl rfl).trans (Wk.sub ⟨rfl, rfl, rfl, rfl, rfl, rfl, trivial⟩ ⟨rfl, rfl, rfl, trivial⟩)
 ·rintro acc0 hacc0
  rw [List.map_nil, catB, ba_nil] at hacc0
  conv=>whnf
  refine brk_i (fun h1 => absurd h1 (by simp)) (fun _ => ?_)
  conv=>whnf
  refine LoopA_i (T := tys) tysOk (by exact drawsB_spec mixed tysOk (by decide +kernel)) c.sands (fun i (acc : ByteArray) => ⟨[(3, .ptr 3 0), (4, .clo 110 [.ptr 3 0]), (52, .d (sandsD c.sands)), (53, .d (i64 c.sands.length)), (54, .d (i64 i))], bldO 3 900000 acc, st⟩) (fun i r acc => acc ++ catB (r.map sandT) = chtT c) acc0 ?_ ?_ ?_ ?_
  ·exact Wk.sub ⟨rfl, rfl, rfl, congrArg (fun z : Nat => some (V.d (i64 z))) (by simp), rfl, trivial⟩ (by by_cases ha : acc0.size = 0 <;> simp only [bldO, ha, if_true, if_false] <;> first | exact ⟨rfl, trivial⟩ | exact ⟨rfl, rfl, trivial⟩)
  ·rw [hacc0]; rfl
  ·rintro i m r acc hmi hi hir hacc
   have hmm := List.mem_of_getElem? hmi
   have hS := hR.sand m hmm
   have hpl := hS.len.2
   have hmn : (sandN m).length = 4 + 2 * m.corners.length := by simp [sandN, ptsN_len]; omega
   have h18 : ∀ n ∈ sandN m, In18 n := by
    intro n hn
    simp only [sandN, ptsN, List.mem_append, List.mem_cons, List.not_mem_nil, or_false, List.mem_flatMap] at hn
    have hx := hS.x
    have hy := hS.y
    rcases hn with (rfl | rfl | rfl | rfl) | ⟨p, hpm, rfl | rfl⟩
    ·unfold In18; omega
    ·unfold In18; omega
    ·unfold In18; omega
    ·unfold In18; omega
    ·have := (hS.pin p hpm).x; unfold In18; omega
    ·have := (hS.pin p hpm).y; unfold In18; omega
   have hnm := hN.sand m hmm
   have hml := hR.sands
   have hasz : acc.size ≤ 20000 := by
    have h3 := congrArg ByteArray.size hacc
    rw [ba_size] at h3
    have := chtT_size hR hN
    omega
   by_cases ha : acc.size = 0
   ·have hb : bldO 3 900000 acc = bldN 3 := if_pos ha
    rw [hb]
    have ha0 : acc = .empty := by
     cases acc with
     | mk d => 
      have : d = #[] := Array.eq_empty_of_size_eq_zero ha
      rw [this]; rfl
    conv=>whnf
    refine brk_i (fun _ => ?_) (fun h1 => absurd h1 (by simp; omega))
    conv=>whnf
    refine elemK_nat hmi ?_
    conv=>whnf
    refine LoopA_i (T := tys) tysOk (by exact drawsB_spec mixed tysOk (by decide +kernel)) m.corners (fun j (ns : List Int) => ⟨[(3, .ptr 3 0), (4, .clo 110 [.ptr 3 0]), (52, .d (sandsD c.sands)), (53, .d (i64 c.sands.length)), (54, .d (i64 i)), (11, .ptr 11 0), (12, .sl 900001 1 0 ns.length), (76, .d (ptsD m.corners)), (77, .d (i64 m.corners.length)), (78, .d (i64 j))], (11, .box (.dd m.cells)) :: (900001, .arr 1 (.dd (intsC ns))) :: bldN 3, st⟩) (fun j rr ns => ns ++ ptsN rr = sandN m) [m.moves.x.lo, m.moves.x.hi, m.moves.y.lo, m.moves.y.hi] ?_ rfl ?_ ?_
    ·exact (Wk.move 74 900001 rfl rfl).trans (Wk.sub ⟨rfl, rfl, rfl, rfl, rfl, rfl, rfl, rfl, congrArg (fun z : Nat => some (V.d (i64 z))) (by simp), rfl, trivial⟩ ⟨rfl, rfl, ⟨rfl, trivial⟩⟩)
    ·rintro j x rr ns hxj hj hjr hns
     have hnl : ns.length + 2 ≤ (sandN m).length := by rw [← hns]; simp [ptsN]
     conv=>whnf
     refine brk_i (fun _ => ?_) (fun h1 => absurd h1 (by simp; omega))
     conv=>whnf
     refine elemK_nat hxj ?_
     conv=>whnf
     refine ownK_whole rfl ?_
     conv=>whnf
     refine ownK_whole (by simp [Els.len, intsC]) ?_
     conv=>whnf
     refine chk_i (decide_eq_true (by show ((intsC ns).length + 2) * 8 ≤ _; simp only [intsC, List.length_map]; omega)) ?_
     conv=>whnf
     refine arith_in (wrap_i64 (by (try dsimp only); omega)) ?_
     conv=>whnf
     refine ⟨ns ++ [x.x, x.y], by rw [← hns]; simp [ptsN], (Wk.move 88 900001 rfl rfl).trans (Wk.sub ⟨rfl, rfl, rfl, rfl, rfl, rfl, congrArg (fun z : Nat => some (V.sl 900001 1 0 z)) (by simp [Els.len, intsC]), rfl, rfl, rfl, trivial⟩ ⟨rfl, congrArg (fun z => some (Obj.arr 1 (.dd z))) (by simp [intsC]), ⟨rfl, trivial⟩⟩)⟩
    ·rintro ns hns
     have hns : ns = sandN m := by rw [← hns]; simp [ptsN]
     subst hns
     conv=>whnf
     refine brk_i (fun h1 => absurd h1 (by simp)) (fun _ => ?_)
     conv=>whnf
     refine CallA_frzP 1 [900001] (args' := [.d (.str sandW), .d (.str m.name), .d (intsD (sandN m)), .ptr 3 0]) (by
      show [_, _, repl _ (.sl 900001 1 0 (sandN m).length), _] = _
      rw [repl_sl (d := intsD (sandN m)) (viewV_sl rfl (by simp [intsC]))]; rfl) rfl ?_
     refine CallA_fn (ch110_new sandW m.name (sandN m) h18 (by omega) (by have := (lineB_size sandW m.name (sandN m)).1; have : sandW.size = 4 := rfl; omega)) [3] rfl ⟨_, _, rfl, rfl, rfl⟩ rfl ?_
     conv=>whnf
     refine arith_in (wrap_i64 (by (try dsimp only); omega)) ?_
     conv=>whnf
     have hbo : bldO 3 900000 (acc ++ sandT m) = bldU 3 900000 (sandT m) := by
      have h2 : 0 < (sandT m).size := (lineB_size sandW m.name (sandN m)).2
      rw [(show acc ++ sandT m = sandT m from by rw [ha0]; simp)]
      refine if_neg ?_
      try rw [ba_size]
      omega
     refine ⟨acc ++ sandT m, by rw [← hacc, List.map_cons, catB, ba_assoc], ?_⟩
     rw [hbo]
     exact (Wk.move 106016 900000 rfl rfl).trans (Wk.sub ⟨rfl, rfl, rfl, rfl, rfl, trivial⟩ ⟨rfl, rfl, trivial⟩)
   ·have hb : bldO 3 900000 acc = bldU 3 900000 acc := if_neg ha
    rw [hb]
    conv=>whnf
    refine brk_i (fun _ => ?_) (fun h1 => absurd h1 (by simp; omega))
    conv=>whnf
    refine elemK_nat hmi ?_
    conv=>whnf
    refine LoopA_i (T := tys) tysOk (by exact drawsB_spec mixed tysOk (by decide +kernel)) m.corners (fun j (ns : List Int) => ⟨[(3, .ptr 3 0), (4, .clo 110 [.ptr 3 0]), (52, .d (sandsD c.sands)), (53, .d (i64 c.sands.length)), (54, .d (i64 i)), (11, .ptr 11 0), (12, .sl 900001 1 0 ns.length), (76, .d (ptsD m.corners)), (77, .d (i64 m.corners.length)), (78, .d (i64 j))], (11, .box (.dd m.cells)) :: (900001, .arr 1 (.dd (intsC ns))) :: bldU 3 900000 acc, st⟩) (fun j rr ns => ns ++ ptsN rr = sandN m) [m.moves.x.lo, m.moves.x.hi, m.moves.y.lo, m.moves.y.hi] ?_ rfl ?_ ?_
    ·exact (Wk.move 74 900001 rfl rfl).trans (Wk.sub ⟨rfl, rfl, rfl, rfl, rfl, rfl, rfl, rfl, congrArg (fun z : Nat => some (V.d (i64 z))) (by simp), rfl, trivial⟩ ⟨rfl, rfl, ⟨rfl, rfl, trivial⟩⟩)
    ·rintro j x rr ns hxj hj hjr hns
     have hnl : ns.length + 2 ≤ (sandN m).length := by rw [← hns]; simp [ptsN]
     conv=>whnf
     refine brk_i (fun _ => ?_) (fun h1 => absurd h1 (by simp; omega))
     conv=>whnf
     refine elemK_nat hxj ?_
     conv=>whnf
     refine ownK_whole rfl ?_
     conv=>whnf
     refine ownK_whole (by simp [Els.len, intsC]) ?_
     conv=>whnf
     refine chk_i (decide_eq_true (by show ((intsC ns).length + 2) * 8 ≤ _; simp only [intsC, List.length_map]; omega)) ?_
     conv=>whnf
     refine arith_in (wrap_i64 (by (try dsimp only); omega)) ?_
     conv=>whnf
     refine ⟨ns ++ [x.x, x.y], by rw [← hns]; simp [ptsN], (Wk.move 88 900001 rfl rfl).trans (Wk.sub ⟨rfl, rfl, rfl, rfl, rfl, rfl, congrArg (fun z : Nat => some (V.sl 900001 1 0 z)) (by simp [Els.len, intsC]), rfl, rfl, rfl, trivial⟩ ⟨rfl, congrArg (fun z => some (Obj.arr 1 (.dd z))) (by simp [intsC]), ⟨rfl, rfl, trivial⟩⟩)⟩
    ·rintro ns hns
     have hns : ns = sandN m := by rw [← hns]; simp [ptsN]
     subst hns
     conv=>whnf
     refine brk_i (fun h1 => absurd h1 (by simp)) (fun _ => ?_)
     conv=>whnf
     refine CallA_frzP 1 [900001] (args' := [.d (.str sandW), .d (.str m.name), .d (intsD (sandN m)), .ptr 3 0]) (by
      show [_, _, repl _ (.sl 900001 1 0 (sandN m).length), _] = _
      rw [repl_sl (d := intsD (sandN m)) (viewV_sl rfl (by simp [intsC]))]; rfl) rfl ?_
     refine CallA_fn (ch110 acc sandW m.name (sandN m) (by omega) h18 (by omega) (by have := (lineB_size sandW m.name (sandN m)).1; have : sandW.size = 4 := rfl; omega)) [3, 900000] rfl ⟨_, _, rfl, rfl, _, _, rfl, rfl, rfl⟩ rfl ?_
     conv=>whnf
     refine arith_in (wrap_i64 (by (try dsimp only); omega)) ?_
     conv=>whnf
     have hbo : bldO 3 900000 (acc ++ sandT m) = bldU 3 900000 (acc ++ sandT m) := by
      have h2 : 0 < (sandT m).size := (lineB_size sandW m.name (sandN m)).2
      rw [(show acc ++ sandT m = acc ++ sandT m from rfl)]
      refine if_neg ?_
      try rw [ba_size]
      omega
     refine ⟨acc ++ sandT m, by rw [← hacc, List.map_cons, catB, ba_assoc], ?_⟩
     rw [hbo]
     exact (Wk.move 106016 900000 rfl rfl).trans (Wk.sub ⟨rfl, rfl, rfl, rfl, rfl, trivial⟩ ⟨rfl, rfl, trivial⟩)
  ·rintro acc hacc
   rw [List.map_nil, catB, ba_nil] at hacc
   subst hacc
   conv=>whnf
   refine brk_i (fun h1 => absurd h1 (by simp)) (fun _ => ?_)
   conv=>whnf
   have hcs := chtT_size hR hN
   by_cases ha : (chtT c).size = 0
   ·have hb : bldO 3 900000 (chtT c) = bldN 3 := if_pos ha
    have hc0 : chtT c = .empty := by
     generalize chtT c = x at ha
     cases x with
     | mk d =>
      have : d = #[] := Array.eq_empty_of_size_eq_zero ha
      rw [this]; rfl
    rw [hb, hc0]
    refine CallA_fn ch114_new [3] rfl ⟨_, _, rfl, rfl, rfl⟩ rfl ?_
    conv=>whnf
    exact RetA_view 0 rfl ⟨⟨rfl, rfl⟩, rfl⟩
   ·have hb : bldO 3 900000 (chtT c) = bldU 3 900000 (chtT c) := if_neg ha
    rw [hb]
    refine CallA_fn (ch114 (chtT c) (by omega) (by omega)) [3, 900000] rfl ⟨_, _, rfl, rfl, _, _, rfl, rfl, rfl⟩ rfl ?_
    conv=>whnf
    exact RetA_view 0 rfl ⟨⟨rfl, rfl⟩, rfl⟩
end Go.PX
