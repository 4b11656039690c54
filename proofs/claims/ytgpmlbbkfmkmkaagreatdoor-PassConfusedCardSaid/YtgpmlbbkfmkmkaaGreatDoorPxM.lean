import Derived.Test.YtgpmlbbkfmkmkaaGreatDoorPxL
import Derived.Test.YtgpmlbbkfmkmkaaGreatDoorPxJ
import Derived.Lib.SplitLaws
import Derived.Lib.IndexBytes
import Derived.Test.YtgpmlbbkfmkmkaaGreatDoorPxI
import Derived.Test.YtgpmlbbkfmkmkaaGreatDoorPxK
import Derived.Test.YtgpmlbbkfmkmkaaGreatDoorPxH
set_option linter.all false
set_option maxRecDepth 10000
namespace Go.PX
open Go.Proofs
open Go.Shelf
def Tryz.laysM171_ren:Go.Shelf.Ren:=⟨fun | 171=>120 | 243=>131 | 246=>140 | 283=>153 | 284=>154 | 285=>155 | 286=>156 | 129=>164 | 317=>163 | 318=>165 | 319=>166 | 320=>167 | 337=>170 | 338=>171 | n=>n,fun | 3=>3 | 9=>9 | 2=>2 | 4=>4 | 171=>223 | 0=>0 | 53=>224 | 37=>186 | 5=>5 | 173=>227 | 212=>238 | 51=>91 | 20=>20 | 213=>239 | 46=>214 | 232=>250 | 233=>251 | n=>n,fun | 17=>3 | 18=>6 | 19=>7 | n=>n⟩
theorem Tryz.laysM171:Go.Proofs.LaysM.n171 Tryz.prog Tryz.laysM171_ren:={
 mixed:=by kernel_rfl
 f129:=Tryz.func164.trans (congrArg some (by kernel_rfl))
 f171:=Tryz.func120.trans (congrArg some (by kernel_rfl))
 f243:=Tryz.func131.trans (congrArg some (by kernel_rfl))
 f246:=Tryz.func140.trans (congrArg some (by kernel_rfl))
 f283:=Tryz.func153.trans (congrArg some (by kernel_rfl))
 f284:=Tryz.func154.trans (congrArg some (by kernel_rfl))
 f285:=Tryz.func155.trans (congrArg some (by kernel_rfl))
 f286:=Tryz.func156.trans (congrArg some (by kernel_rfl))
 f317:=Tryz.func163.trans (congrArg some (by kernel_rfl))
 f318:=Tryz.func165.trans (congrArg some (by kernel_rfl))
 f319:=Tryz.func166.trans (congrArg some (by kernel_rfl))
 f320:=Tryz.func167.trans (congrArg some (by kernel_rfl))
 f337:=Tryz.func170.trans (congrArg some (by kernel_rfl))
 f338:=Tryz.func171.trans (congrArg some (by kernel_rfl))
 t0:=Tryz.underlying0
 a0:=Tryz.isAgg0
 z0:=Tryz.sizeOf0
 v0:=Tryz.zeroValue0
 t2:=Tryz.underlying2
 a2:=Tryz.isAgg2
 z2:=Tryz.sizeOf2
 v2:=Tryz.zeroValue2
 t3:=Tryz.underlying3
 a3:=Tryz.isAgg3
 z3:=Tryz.sizeOf3
 v3:=Tryz.zeroValue3
 t4:=Tryz.underlying4
 a4:=Tryz.isAgg4
 z4:=Tryz.sizeOf4
 v4:=Tryz.zeroValue4
 t5:=Tryz.underlying5
 a5:=Tryz.isAgg5
 z5:=Tryz.sizeOf5
 v5:=Tryz.zeroValue5
 t9:=Tryz.underlying9
 a9:=Tryz.isAgg9
 z9:=Tryz.sizeOf9
 v9:=Tryz.zeroValue9
 t20:=Tryz.underlying20
 a20:=Tryz.isAgg20
 z20:=Tryz.sizeOf20
 v20:=Tryz.zeroValue20
 t37:=Tryz.underlying186
 a37:=Tryz.isAgg186
 z37:=Tryz.sizeOf186
 v37:=Tryz.zeroValue186
 t46:=Tryz.underlying214
 a46:=Tryz.isAgg214
 z46:=Tryz.sizeOf214
 v46:=Tryz.zeroValue214
 t51:=Tryz.underlying91
 a51:=Tryz.isAgg91
 z51:=Tryz.sizeOf91
 v51:=Tryz.zeroValue91
 t53:=Tryz.underlying224
 a53:=Tryz.isAgg224
 z53:=Tryz.sizeOf224
 v53:=Tryz.zeroValue224
 t171:=Tryz.underlying223
 a171:=Tryz.isAgg223
 z171:=Tryz.sizeOf223
 v171:=Tryz.zeroValue223
 t173:=Tryz.underlying227
 a173:=Tryz.isAgg227
 z173:=Tryz.sizeOf227
 v173:=Tryz.zeroValue227
 t212:=Tryz.underlying238
 a212:=Tryz.isAgg238
 z212:=Tryz.sizeOf238
 v212:=Tryz.zeroValue238
 t213:=Tryz.underlying239
 a213:=Tryz.isAgg239
 z213:=Tryz.sizeOf239
 t232:=Tryz.underlying250
 a232:=Tryz.isAgg250
 z232:=Tryz.sizeOf250
 v232:=Tryz.zeroValue250
 t233:=Tryz.underlying251
 a233:=Tryz.isAgg251
 z233:=Tryz.sizeOf251
 v233:=Tryz.zeroValue251
 g17:=by kernel_rfl
 g18:=by kernel_rfl
 g19:=by kernel_rfl
 i0:=by kernel_rfl
 i2:=by kernel_rfl
 i3:=by kernel_rfl
 i4:=by kernel_rfl
 i5:=by kernel_rfl
 i9:=by kernel_rfl
 i20:=by kernel_rfl
 i37:=by kernel_rfl
 i46:=by kernel_rfl
 i51:=by kernel_rfl
 i53:=by kernel_rfl
 i171:=by kernel_rfl
 i173:=by kernel_rfl
 i212:=by kernel_rfl
 i232:=by kernel_rfl
 i233:=by kernel_rfl
 m17:=by kernel_rfl
 m18:=by kernel_rfl
 m19:=by kernel_rfl }
open Go.RowKit Go.Sort Go.Lib in
theorem Tryz.strconv_Itoa (n : Int) (h0 : -9223372036854775808 <= n) (h1 : n <= 9223372036854775807) (w : World) (htab : Lib.TabIs Tryz.prog w "internal/strconv.uint64pow10" .u64 Lib.pow10Tab) :
  Calls Tryz.prog 120 #[.int .i64 n] w fun e w'=>e = .returned (.string ⟨(Lib.itoa n).toArray⟩) /\ ∃ k os,w'=grow (w.drewN k) os:=Any.strconv_Itoa Tryz.laysM171 n h0 h1 w htab
def Tryz.laysC172_ren:Go.Shelf.Ren:=⟨fun | 172=>125 | 244=>134 | 245=>135 | 247=>145 | 279=>146 | 280=>147 | 281=>148 | 282=>149 | 287=>159 | 316=>160 | 171=>120 | 205=>161 | 321=>168 | 322=>169 | 243=>131 | 246=>140 | 283=>153 | 284=>154 | 285=>155 | 286=>156 | 129=>164 | 317=>163 | 318=>165 | 319=>166 | 320=>167 | 337=>170 | 338=>171 | n=>n,fun | 9=>9 | 3=>3 | 75=>191 | 76=>193 | 4=>4 | 5=>5 | 167=>215 | 37=>186 | 0=>0 | 85=>216 | 2=>2 | 168=>218 | 53=>224 | 175=>231 | 46=>214 | 210=>235 | 127=>204 | 145=>244 | 143=>242 | 21=>21 | 171=>223 | 173=>227 | 212=>238 | 51=>91 | 20=>20 | 213=>239 | 232=>250 | 233=>251 | 80=>134 | n=>n,fun | 15=>1 | 16=>2 | 17=>3 | 18=>6 | 19=>7 | n=>n⟩
theorem Tryz.laysC172:Go.Proofs.LaysC.n172 Tryz.prog Tryz.laysC172_ren:={
 mixed:=by kernel_rfl
 f129:=Tryz.func164.trans (congrArg some (by kernel_rfl))
 f171:=Tryz.func120.trans (congrArg some (by kernel_rfl))
 f172:=Tryz.func125.trans (congrArg some (by kernel_rfl))
 f205:=Tryz.func161.trans (congrArg some (by kernel_rfl))
 f243:=Tryz.func131.trans (congrArg some (by kernel_rfl))
 f244:=Tryz.func134.trans (congrArg some (by kernel_rfl))
 f245:=Tryz.func135.trans (congrArg some (by kernel_rfl))
 f246:=Tryz.func140.trans (congrArg some (by kernel_rfl))
 f247:=Tryz.func145.trans (congrArg some (by kernel_rfl))
 f279:=Tryz.func146.trans (congrArg some (by kernel_rfl))
 f280:=Tryz.func147.trans (congrArg some (by kernel_rfl))
 f281:=Tryz.func148.trans (congrArg some (by kernel_rfl))
 f282:=Tryz.func149.trans (congrArg some (by kernel_rfl))
 f283:=Tryz.func153.trans (congrArg some (by kernel_rfl))
 f284:=Tryz.func154.trans (congrArg some (by kernel_rfl))
 f285:=Tryz.func155.trans (congrArg some (by kernel_rfl))
 f286:=Tryz.func156.trans (congrArg some (by kernel_rfl))
 f287:=Tryz.func159.trans (congrArg some (by kernel_rfl))
 f316:=Tryz.func160.trans (congrArg some (by kernel_rfl))
 f317:=Tryz.func163.trans (congrArg some (by kernel_rfl))
 f318:=Tryz.func165.trans (congrArg some (by kernel_rfl))
 f319:=Tryz.func166.trans (congrArg some (by kernel_rfl))
 f320:=Tryz.func167.trans (congrArg some (by kernel_rfl))
 f321:=Tryz.func168.trans (congrArg some (by kernel_rfl))
 f322:=Tryz.func169.trans (congrArg some (by kernel_rfl))
 f337:=Tryz.func170.trans (congrArg some (by kernel_rfl))
 f338:=Tryz.func171.trans (congrArg some (by kernel_rfl))
 t0:=Tryz.underlying0
 a0:=Tryz.isAgg0
 z0:=Tryz.sizeOf0
 v0:=Tryz.zeroValue0
 t2:=Tryz.underlying2
 a2:=Tryz.isAgg2
 z2:=Tryz.sizeOf2
 v2:=Tryz.zeroValue2
 t3:=Tryz.underlying3
 a3:=Tryz.isAgg3
 z3:=Tryz.sizeOf3
 v3:=Tryz.zeroValue3
 t4:=Tryz.underlying4
 a4:=Tryz.isAgg4
 z4:=Tryz.sizeOf4
 v4:=Tryz.zeroValue4
 t5:=Tryz.underlying5
 a5:=Tryz.isAgg5
 z5:=Tryz.sizeOf5
 v5:=Tryz.zeroValue5
 t9:=Tryz.underlying9
 a9:=Tryz.isAgg9
 z9:=Tryz.sizeOf9
 v9:=Tryz.zeroValue9
 t20:=Tryz.underlying20
 a20:=Tryz.isAgg20
 z20:=Tryz.sizeOf20
 v20:=Tryz.zeroValue20
 t21:=Tryz.underlying21
 a21:=Tryz.isAgg21
 z21:=Tryz.sizeOf21
 v21:=Tryz.zeroValue21
 t37:=Tryz.underlying186
 a37:=Tryz.isAgg186
 z37:=Tryz.sizeOf186
 v37:=Tryz.zeroValue186
 t46:=Tryz.underlying214
 a46:=Tryz.isAgg214
 z46:=Tryz.sizeOf214
 v46:=Tryz.zeroValue214
 t51:=Tryz.underlying91
 a51:=Tryz.isAgg91
 z51:=Tryz.sizeOf91
 v51:=Tryz.zeroValue91
 t53:=Tryz.underlying224
 a53:=Tryz.isAgg224
 z53:=Tryz.sizeOf224
 v53:=Tryz.zeroValue224
 t75:=Tryz.underlying191
 a75:=Tryz.isAgg191
 z75:=Tryz.sizeOf191
 v75:=Tryz.zeroValue191
 t76:=Tryz.underlying193
 a76:=Tryz.isAgg193
 z76:=Tryz.sizeOf193
 v76:=Tryz.zeroValue193
 t85:=Tryz.underlying216
 a85:=Tryz.isAgg216
 z85:=Tryz.sizeOf216
 v85:=Tryz.zeroValue216
 t127:=Tryz.underlying204
 a127:=Tryz.isAgg204
 z127:=Tryz.sizeOf204
 v127:=Tryz.zeroValue204
 t143:=Tryz.underlying242
 a143:=Tryz.isAgg242
 z143:=Tryz.sizeOf242
 v143:=Tryz.zeroValue242
 t145:=Tryz.underlying244
 a145:=Tryz.isAgg244
 z145:=Tryz.sizeOf244
 v145:=Tryz.zeroValue244
 t167:=Tryz.underlying215
 a167:=Tryz.isAgg215
 z167:=Tryz.sizeOf215
 v167:=Tryz.zeroValue215
 t168:=Tryz.underlying218
 a168:=Tryz.isAgg218
 z168:=Tryz.sizeOf218
 v168:=Tryz.zeroValue218
 t171:=Tryz.underlying223
 a171:=Tryz.isAgg223
 z171:=Tryz.sizeOf223
 v171:=Tryz.zeroValue223
 t173:=Tryz.underlying227
 a173:=Tryz.isAgg227
 z173:=Tryz.sizeOf227
 v173:=Tryz.zeroValue227
 t175:=Tryz.underlying231
 a175:=Tryz.isAgg231
 z175:=Tryz.sizeOf231
 v175:=Tryz.zeroValue231
 t210:=Tryz.underlying235
 a210:=Tryz.isAgg235
 z210:=Tryz.sizeOf235
 v210:=Tryz.zeroValue235
 t212:=Tryz.underlying238
 a212:=Tryz.isAgg238
 z212:=Tryz.sizeOf238
 v212:=Tryz.zeroValue238
 t213:=Tryz.underlying239
 a213:=Tryz.isAgg239
 z213:=Tryz.sizeOf239
 t232:=Tryz.underlying250
 a232:=Tryz.isAgg250
 z232:=Tryz.sizeOf250
 v232:=Tryz.zeroValue250
 t233:=Tryz.underlying251
 a233:=Tryz.isAgg251
 z233:=Tryz.sizeOf251
 v233:=Tryz.zeroValue251
 g15:=by kernel_rfl
 g16:=by kernel_rfl
 g17:=by kernel_rfl
 g18:=by kernel_rfl
 g19:=by kernel_rfl
 t80:=Tryz.underlying134
 a80:=Tryz.isAgg134
 z80:=Tryz.sizeOf134
 v80:=Tryz.zeroValue134
 i0:=by kernel_rfl
 i2:=by kernel_rfl
 i3:=by kernel_rfl
 i4:=by kernel_rfl
 i5:=by kernel_rfl
 i9:=by kernel_rfl
 i20:=by kernel_rfl
 i21:=by kernel_rfl
 i37:=by kernel_rfl
 i46:=by kernel_rfl
 i51:=by kernel_rfl
 i53:=by kernel_rfl
 i75:=by kernel_rfl
 i76:=by kernel_rfl
 i80:=by kernel_rfl
 i85:=by kernel_rfl
 i127:=by kernel_rfl
 i143:=by kernel_rfl
 i145:=by kernel_rfl
 i167:=by kernel_rfl
 i168:=by kernel_rfl
 i171:=by kernel_rfl
 i173:=by kernel_rfl
 i175:=by kernel_rfl
 i210:=by kernel_rfl
 i212:=by kernel_rfl
 i232:=by kernel_rfl
 i233:=by kernel_rfl
 m15:=by kernel_rfl
 m16:=by kernel_rfl
 m17:=by kernel_rfl
 m18:=by kernel_rfl
 m19:=by kernel_rfl
 c0:=by kernel_rfl
 c2:=by kernel_rfl
 c3:=by kernel_rfl
 c4:=by kernel_rfl
 c5:=by kernel_rfl
 c9:=by kernel_rfl
 c20:=by kernel_rfl
 c21:=by kernel_rfl
 c37:=by kernel_rfl
 c46:=by kernel_rfl
 c51:=by kernel_rfl
 c53:=by kernel_rfl
 c75:=by kernel_rfl
 c76:=by kernel_rfl
 c80:=by kernel_rfl
 c85:=by kernel_rfl
 c127:=by kernel_rfl
 c143:=by kernel_rfl
 c145:=by kernel_rfl
 c167:=by kernel_rfl
 c168:=by kernel_rfl
 c171:=by kernel_rfl
 c173:=by kernel_rfl
 c175:=by kernel_rfl
 c210:=by kernel_rfl
 c212:=by kernel_rfl
 c213:=by kernel_rfl
 c232:=by kernel_rfl
 c233:=by kernel_rfl }
open Go.RowKit in
theorem Tryz.strconv_Atoi_ok(s:ByteArray)(hmax:s.size<=9223372036854775806)(v:Int)(h:Lib.atoiAll s.data.toList = .ok v)(w:World) :
  Calls Tryz.prog 125 #[.string s] w fun e w'=>e = .returned (.tuple #[.int .i64 v,.nilIface])/\(w'=w \/ ∃ t,w'=Lib.bytesWorld w 5 t):=Any.strconv_Atoi_ok Tryz.laysC172 s hmax v h w
def Tryz.lays145_ren:Go.Shelf.Ren:=⟨fun | 145=>94 | 220=>123 | 219=>132 | 217=>141 | 225=>142 | 224=>143 | 267=>144 | 266=>157 | 314=>158 | n=>n,fun | 9=>9 | 4=>4 | 59=>160 | 3=>3 | 5=>5 | 46=>214 | 146=>229 | 51=>91 | n=>n,fun | 1=>0 | n=>n⟩
theorem Tryz.lays145:Go.Proofs.Lays.n145 Tryz.prog Tryz.lays145_ren:={
 mixed:=by kernel_rfl
 f145:=Tryz.func94.trans (congrArg some (by kernel_rfl))
 f217:=Tryz.func141.trans (congrArg some (by kernel_rfl))
 f219:=Tryz.func132.trans (congrArg some (by kernel_rfl))
 f220:=Tryz.func123.trans (congrArg some (by kernel_rfl))
 f224:=Tryz.func143.trans (congrArg some (by kernel_rfl))
 f225:=Tryz.func142.trans (congrArg some (by kernel_rfl))
 f266:=Tryz.func157.trans (congrArg some (by kernel_rfl))
 f267:=Tryz.func144.trans (congrArg some (by kernel_rfl))
 f314:=Tryz.func158.trans (congrArg some (by kernel_rfl))
 t3:=Tryz.underlying3
 a3:=Tryz.isAgg3
 z3:=Tryz.sizeOf3
 v3:=Tryz.zeroValue3
 t4:=Tryz.underlying4
 a4:=Tryz.isAgg4
 z4:=Tryz.sizeOf4
 v4:=Tryz.zeroValue4
 t5:=Tryz.underlying5
 a5:=Tryz.isAgg5
 z5:=Tryz.sizeOf5
 v5:=Tryz.zeroValue5
 t9:=Tryz.underlying9
 a9:=Tryz.isAgg9
 z9:=Tryz.sizeOf9
 v9:=Tryz.zeroValue9
 t46:=Tryz.underlying214
 a46:=Tryz.isAgg214
 z46:=Tryz.sizeOf214
 v46:=Tryz.zeroValue214
 t51:=Tryz.underlying91
 a51:=Tryz.isAgg91
 z51:=Tryz.sizeOf91
 v51:=Tryz.zeroValue91
 t59:=Tryz.underlying160
 a59:=Tryz.isAgg160
 z59:=Tryz.sizeOf160
 v59:=Tryz.zeroValue160
 t146:=Tryz.underlying229
 a146:=Tryz.isAgg229
 z146:=Tryz.sizeOf229
 v146:=Tryz.zeroValue229
 g1:=by kernel_rfl }
open Go.RowKit Go.Lib in
theorem Tryz.strings_Cut(s sep:ByteArray)(m:Int)(w:World)(hs:s.size<4294967281)(hm:w.cell? ⟨0,0,none⟩=some (.int .i64 m)) :
  Calls Tryz.prog 94 #[.string s,.string sep] w fun e w'=>e = .returned (.tuple #[.string ⟨(Lib.cut s.data.toList sep.data.toList).1.toArray⟩,.string ⟨(Lib.cut s.data.toList sep.data.toList).2.1.toArray⟩,.bool (Lib.cut s.data.toList sep.data.toList).2.2]) /\ ∃ n,w'=w.drewN n:=Any.strings_Cut Tryz.lays145 s sep m w hs hm
def Tryz.lays146_ren:Go.Shelf.Ren:=⟨fun | 146=>99 | 221=>126 | 268=>136 | 138=>137 | 143=>138 | 195=>150 | 197=>151 | 218=>152 | 219=>132 | 260=>162 | 217=>141 | 225=>142 | 224=>143 | 267=>144 | 266=>157 | 314=>158 | n=>n,fun | 9=>9 | 31=>108 | 3=>3 | 4=>4 | 0=>0 | 105=>221 | 21=>21 | 5=>5 | 46=>214 | 119=>245 | 139=>248 | 138=>247 | 146=>229 | 51=>91 | n=>n,fun | 1=>0 | 3=>4 | 4=>5 | n=>n⟩
theorem Tryz.lays146:Go.Proofs.Lays.n146 Tryz.prog Tryz.lays146_ren:={
 mixed:=by kernel_rfl
 f138:=Tryz.func137.trans (congrArg some (by kernel_rfl))
 f143:=Tryz.func138.trans (congrArg some (by kernel_rfl))
 f146:=Tryz.func99.trans (congrArg some (by kernel_rfl))
 f195:=Tryz.func150.trans (congrArg some (by kernel_rfl))
 f197:=Tryz.func151.trans (congrArg some (by kernel_rfl))
 f217:=Tryz.func141.trans (congrArg some (by kernel_rfl))
 f218:=Tryz.func152.trans (congrArg some (by kernel_rfl))
 f219:=Tryz.func132.trans (congrArg some (by kernel_rfl))
 f221:=Tryz.func126.trans (congrArg some (by kernel_rfl))
 f224:=Tryz.func143.trans (congrArg some (by kernel_rfl))
 f225:=Tryz.func142.trans (congrArg some (by kernel_rfl))
 f260:=Tryz.func162.trans (congrArg some (by kernel_rfl))
 f266:=Tryz.func157.trans (congrArg some (by kernel_rfl))
 f267:=Tryz.func144.trans (congrArg some (by kernel_rfl))
 f268:=Tryz.func136.trans (congrArg some (by kernel_rfl))
 f314:=Tryz.func158.trans (congrArg some (by kernel_rfl))
 t0:=Tryz.underlying0
 a0:=Tryz.isAgg0
 z0:=Tryz.sizeOf0
 v0:=Tryz.zeroValue0
 t3:=Tryz.underlying3
 a3:=Tryz.isAgg3
 z3:=Tryz.sizeOf3
 v3:=Tryz.zeroValue3
 t4:=Tryz.underlying4
 a4:=Tryz.isAgg4
 z4:=Tryz.sizeOf4
 v4:=Tryz.zeroValue4
 t5:=Tryz.underlying5
 a5:=Tryz.isAgg5
 z5:=Tryz.sizeOf5
 v5:=Tryz.zeroValue5
 t9:=Tryz.underlying9
 a9:=Tryz.isAgg9
 z9:=Tryz.sizeOf9
 v9:=Tryz.zeroValue9
 t21:=Tryz.underlying21
 a21:=Tryz.isAgg21
 z21:=Tryz.sizeOf21
 v21:=Tryz.zeroValue21
 t31:=Tryz.underlying108
 a31:=Tryz.isAgg108
 z31:=Tryz.sizeOf108
 v31:=Tryz.zeroValue108
 t46:=Tryz.underlying214
 a46:=Tryz.isAgg214
 z46:=Tryz.sizeOf214
 v46:=Tryz.zeroValue214
 t51:=Tryz.underlying91
 a51:=Tryz.isAgg91
 z51:=Tryz.sizeOf91
 v51:=Tryz.zeroValue91
 t105:=Tryz.underlying221
 a105:=Tryz.isAgg221
 z105:=Tryz.sizeOf221
 v105:=Tryz.zeroValue221
 t119:=Tryz.underlying245
 a119:=Tryz.isAgg245
 z119:=Tryz.sizeOf245
 t138:=Tryz.underlying247
 a138:=Tryz.isAgg247
 z138:=Tryz.sizeOf247
 v138:=Tryz.zeroValue247
 t139:=Tryz.underlying248
 a139:=Tryz.isAgg248
 z139:=Tryz.sizeOf248
 v139:=Tryz.zeroValue248
 t146:=Tryz.underlying229
 a146:=Tryz.isAgg229
 z146:=Tryz.sizeOf229
 v146:=Tryz.zeroValue229
 g1:=by kernel_rfl
 g3:=by kernel_rfl
 g4:=by kernel_rfl }
open Go.RowKit Go.Lib in
theorem Tryz.strings_Split(s sep:ByteArray)(m:Int)(w:World)(hs:s.size<4294967281)(hm:w.cell? ⟨0,0,none⟩=some (.int .i64 m))(h1:1<=sep.size) :
  Calls Tryz.prog 99 #[.string s,.string sep] w fun e w'=>
   e = .returned (.slice (some ⟨w.heap.size,0,none⟩) (Lib.countB s sep+1) (Lib.countB s sep+1))/\w'=w.alloc (.cells ((Lib.splitB sep 0 (Lib.countB s sep) s).map Value.string).toArray 9):=Any.strings_Split Tryz.lays146 (by kernel_rfl) s sep m w hs hm h1
theorem qoq(n:Int)(h : -1000000000000000000<=n/\n<=1000000000000000000):FnV Tryz.prog 120 [i64 n] (.str (qkI n)):=by
 refine qcY (enters Tryz.func120 rfl (by decide +kernel)) fun vals w F hl hf hr=>?_;obtain⟨x,l',h1,h2,h3⟩:=hr;have h2:x = .int .i64 n:=h2;have h3:l' = []:=h3;subst h2 h3;have hv:vals = #[.int .i64 n]:=Array.ext' h1;subst hv;refine(Tryz.strconv_Itoa n (by omega) (by omega) w (hl.tab 3 (by kernel_rfl))).mono ?_;rintro e w' ⟨rfl,k,os,rfl⟩;have hx:(⟨(Lib.itoa n).toArray⟩:ByteArray)=qkI n:=by rw[qkI,numL_eq h]
 rw[hx];have hsz:(Go.Sort.grow (w.drewN k) os).heap.size=w.heap.size+os.size:=by simp[Go.Sort.grow,World.drewN]
 refine⟨_,rfl,⟨rfl,rfl,rfl,by omega,fun b hb=>?_⟩,F,fun _ _=>rfl,fun b hb=>hf b (by omega),rfl⟩;show(w.heap++os)[b]?=_;rw[Array.getElem?_append_left hb]
end Go.PX
namespace Go.PX
open Go.Proofs
open Go.RowKit
def qbr(c:UInt8):List UInt8->List UInt8×List UInt8×Bool
 | []=>([],[],false)
 | x::r=>if x=c then ([],r,true) else (x::(qbr c r).1,(qbr c r).2.1,(qbr c r).2.2)
def qkJ(x:UInt8):List (List UInt8)->List (List UInt8)
 | []=>[[x]]
 | a::t=>(x::a)::t
def qal(c:UInt8):List UInt8->List (List UInt8)
 | []=>[[]]
 | x::r=>if x=c then []::qal c r else qkJ x (qal c r)
theorem idx_nil(c:UInt8):Lib.index [] [c] = -1:=rfl
theorem qoc(c:UInt8)(r:List UInt8):Lib.index (c::r) [c]=0:=by
 rw[Lib.index_one,Lib.indexByte];simp
theorem qod{c x:UInt8}(h:x≠c)(r:List UInt8):Lib.index (x::r) [c]=if Lib.index r [c] == -1 then -1 else Lib.index r [c]+1:=by
 rw[Lib.index_one,Lib.indexByte,Lib.index_one];simp[h]
theorem qoe(c:UInt8):∀ l:List UInt8,Lib.cut l [c]=qbr c l
 | []=>by simp[Lib.cut,idx_nil,qbr]
 | x::r=>by
  rw[qbr]
  by_cases h:x=c
  ·subst h
   rw[if_pos rfl,Lib.cut,qoc];simp
  ·rw[if_neg h,<- qoe c r]
   have hge:=Lib.index_ge r [c];unfold Lib.cut;rw[qod h]
   by_cases h1:Lib.index r [c] = -1
   ·simp[h1]
   ·obtain⟨i,hi⟩:∃ i:Nat,Lib.index r [c]=i:=⟨(Lib.index r [c]).toNat,by omega⟩
    rw[hi];have h2:((i:Int) == -1)=false:=by first | (simp;done) | (simp;omega)
    rw[h2];have h3:(0:Int)<=(i:Int)+1:=by omega
    have h4:(0:Int)<=(i:Int):=by omega
    simp only[Bool.false_eq_true,if_false,if_pos h3,if_pos h4];have h5:((i:Int)+1).toNat=i+1:=by omega
    have h6:((i:Int)).toNat=i:=by omega
    rw[h5,h6];simp
theorem splitL_ne(c:UInt8):∀ l,qal c l ≠ []
 | []=>by simp[qal]
 | x::r=>by
  rw[qal]
  split
  ·simp
  ·cases qal c r<;>simp[qkJ]
theorem qjQ(c:UInt8):∀ l:List UInt8,Lib.splitK [c] 0 (l.count c) l=qal c l
 | []=>rfl
 | x::r=>by
  have ih:=qjQ c r;rw[qal]
  by_cases h:x=c
  ·subst h
   rw[if_pos rfl,List.count_cons_self,Lib.splitK,qoc,<- ih];simp
  ·rw[if_neg h,List.count_cons_of_ne (by simpa using h)]
   cases hk:r.count c with
   | zero=>
    rw[hk]at ih;rw[<- ih];rfl
   | succ k=>
    rw[hk]at ih;rw[<- ih];have hge:=Lib.index_ge r [c];rw[Lib.splitK,Lib.splitK,qod h]
    by_cases h1:Lib.index r [c] = -1
    ·rw[h1];simp[qkJ]
    ·obtain⟨i,hi⟩:∃ i:Nat,Lib.index r [c]=i:=⟨(Lib.index r [c]).toNat,by omega⟩
     rw[hi];have h2:((i:Int) == -1)=false:=by first | (simp;done) | (simp;omega)
     have h3:(((i:Int)+1) == -1)=false:=by first | (simp;done) | (simp;omega)
     rw[h2];simp only[Bool.false_eq_true,if_false];rw[h3];have h5:((i:Int)+1).toNat=i+1:=by omega
     have h6:((i:Int)).toNat=i:=by omega
     simp only[Bool.false_eq_true,if_false,h5,h6,qkJ];simp
def jT(c:UInt8)(s:ByteArray):List ByteArray:=(qal c s.data.toList).map fun l=>⟨l.toArray⟩
theorem splitB_eq(c:UInt8)(s:ByteArray):Lib.splitB ⟨#[c]⟩ 0 (Lib.countB s ⟨#[c]⟩) s=jT c s:=by
 have h:=Lib.splitB_data ⟨#[c]⟩ 0 (Lib.countB s ⟨#[c]⟩) s;have hc:Lib.countB s ⟨#[c]⟩=s.data.toList.count c:=Lib.count_one c s.data.toList;rw[hc]at h ⊢;have h2:(⟨#[c]⟩:ByteArray).data.toList = [c]:=rfl;rw[h2,qjQ]at h;unfold jT;rw[<- h,List.map_map]
 conv=>lhs;rw[<- List.map_id (Lib.splitB ⟨#[c]⟩ 0 (s.data.toList.count c) s)]
 refine List.map_congr_left fun x _=>?_
 cases x;simp
def jv(s:ByteArray):Option Int:=
 match Lib.atoiAll s.data.toList with
 | .ok v=>some v
 | _=>none
theorem qlH{F:Nat->Nat}{w:World}{s:ByteArray}{vals:Array Value}(hr:RepDL F w [.str s] vals.toList):vals = #[.string s]:=by
 obtain⟨x,l',h1,h2,h3⟩:=hr;have h2:x = .string s:=h2;have h3:l' = []:=h3;subst h2 h3;exact Array.ext' h1
theorem qjR{F:Nat->Nat}{w:World}{s t:ByteArray}{vals:Array Value}(hr:RepDL F w [.str s,.str t] vals.toList):vals = #[.string s,.string t]:=by
 obtain⟨x,l',h1,h2,y,l2,rfl,h3,h4⟩:=hr;have h2:x = .string s:=h2;have h3:y = .string t:=h3;have h4:l2 = []:=h4;subst h2 h3 h4;exact Array.ext' h1
theorem Grown.of{w w':World}(h:Below w.heap.size w w'):Grown w w':=⟨h.os,h.tape,h.output,h.size,h.block⟩
theorem pa125(s:ByteArray)(v:Int)(hs:s.size<=1000000000)(h:jv s=some v):FnV Tryz.prog 125 [.str s] (.tup [i64 v,.nili]):=by
 refine qcY (enters Tryz.func125 rfl (by decide +kernel)) fun vals w F hl hf hr=>?_;have ha:Lib.atoiAll s.data.toList = .ok v:=by
  unfold jv at h
  split at h
  ·rename_i u hu;cases h;exact hu
  ·cases h
 rw[qlH hr];refine(Tryz.strconv_Atoi_ok s (by omega) v ha w).mono ?_;rintro e w' ⟨rfl,rfl | ⟨t,rfl⟩⟩
 ·exact⟨_,rfl,Grown.refl _,F,fun _ _=>rfl,hf,_,rfl,_,_,rfl,rfl,_,_,rfl,rfl,rfl⟩
 ·have h2:=Lib.bytesWorld_size w 5 t
  exact⟨_,rfl,Grown.of (Lib.bytesWorld_below w 5 t),F,fun _ _=>rfl,fun b hb=>hf b (by omega),_,rfl,_,_,rfl,rfl,_,_,rfl,rfl,rfl⟩
theorem pa94(s:ByteArray)(c:UInt8)(hs:s.size<=1000000000):FnV Tryz.prog 94 [.str s,.str ⟨#[c]⟩] (.tup [.str ⟨(qbr c s.data.toList).1.toArray⟩,.str ⟨(qbr c s.data.toList).2.1.toArray⟩,.bool (qbr c s.data.toList).2.2]):=by
 refine qcY (enters Tryz.func94 rfl (by decide +kernel)) fun vals w F hl hf hr=>?_;rw[qjR hr];obtain⟨m,hm⟩:=hl.len 0 (by kernel_rfl);have hc:=qoe c s.data.toList;refine(Tryz.strings_Cut s ⟨#[c]⟩ m w (by omega) hm).mono ?_;rintro e w' ⟨rfl,n,rfl⟩;have h2:(⟨#[c]⟩:ByteArray).data.toList = [c]:=rfl;rw[h2,hc];exact⟨_,rfl,⟨rfl,rfl,rfl,Nat.le_refl _,fun _ _=>rfl⟩,F,fun _ _=>rfl,hf,_,rfl,_,_,rfl,rfl,_,_,rfl,rfl,_,_,rfl,rfl,rfl⟩
def qbY(l:List ByteArray):D:=.vs (l.map fun x=>[.str x])
theorem qhN{F:Nat->Nat}{w:World}{b:Nat}:∀ (l:List ByteArray) (off:Nat),(∀ i x,l[i]?=some x->off+i<F b/\w.cell? ⟨b,off+i,none⟩=some (.string x))->RepEs F w b off 1 (l.map fun x=>[D.str x])
 | [],_,_=>trivial
 | x::r,off,h=>by
  obtain⟨h1,h2⟩:=h 0 x rfl;exact⟨rfl,⟨h1,⟨_,h2,rfl⟩,trivial⟩,qhN r (off+1) fun i y hy=>by
   have:=h (i+1) y hy
   rwa [show off+(i+1)=off+1+i by omega]at this⟩
theorem pa99(s:ByteArray)(c:UInt8)(hs:s.size<=1000000000):FnV Tryz.prog 99 [.str s,.str ⟨#[c]⟩] (qbY (jT c s)):=by
 refine qcY (enters Tryz.func99 rfl (by decide +kernel)) fun vals w F hl hf hr=>?_;rw[qjR hr];obtain⟨m,hm⟩:=hl.len 0 (by kernel_rfl);refine(Tryz.strings_Split s ⟨#[c]⟩ m w (by omega) hm (Nat.le_refl 1)).mono ?_;rintro e w' ⟨rfl,rfl⟩;have hlen:=Lib.splitB_all ⟨#[c]⟩ (Nat.le_refl 1) 0 _ s rfl;rw[splitB_eq]at hlen ⊢;rw[<- hlen];generalize jT c s=l at hlen ⊢;have hne:l ≠ []:=by rintro rfl;simp at hlen
 refine⟨_,rfl,⟨rfl,rfl,rfl,by simp,fun b hb=>by show(w.heap.push _)[b]?=_;rw[Array.getElem?_push_lt hb,Array.getElem?_eq_getElem hb]⟩,fun b=>if b=w.heap.size then l.length else F b,fun b hb=>if_neg (by omega),fun b hb=>?_,_,_,_,rfl,by simp,Nat.le_refl _,fun _=>⟨_,0,1,rfl,Nat.one_pos,qhN l 0 fun i x hx=>?_⟩⟩
 ·have:(w.alloc (.cells (l.map Value.string).toArray 9)).heap.size=w.heap.size+1:=by simp
  show(if b=w.heap.size then l.length else F b)=0;rw[if_neg (by omega)];exact hf b (by omega)
 ·have hi:i<l.length:=(List.getElem?_eq_some_iff.1 hx).1
  refine⟨by simp;exact hi,?_⟩;rw[cell_of_row _ _ _ _ _ _ (heap_alloc_new w _)];simp[hx]
end Go.PX
namespace Go.PX
open Go.RowKit
structure FnX{σ:Type}(P:Program)(Y:Hd σ)(f:FuncId)(args:List V)(h:Heap)(s:σ)(Q:V->Heap->σ->Prop)(X:Value->Heap->σ->Prop):Prop where
 enter:∀ (vs:Array Value) (w:World),(callFunc f vs).run P w = .ok (.enter f vs) w
 run:∀ (cx:Cx σ),Handles P Y cx -> ∀ (L:Loc) (F:Nat->Nat) (vals:Array Value) (w:World),HeapOk cx L F h s w->RepVL cx.yv L F w args vals.toList ->
  CallsIn Fence.wide 0 P f vals w fun e w'=>(∃ x,e = .returned x /\ ∃ v h' s' L' F',Q v h' s'/\HeapOk cx L' F' h' s' w'/\RepV cx.yv L' F' w' v x/\Tr F w F' w'/\qdV L L') \/
   ∃ pv h' s' L' F',e = .panicked [{ v:=pv,recovered:=false }]/\X pv h' s'/\HeapOk cx L' F' h' s' w'/\Tr F w F' w'/\qdV L L'
def qoC(P:Program)(f:FuncId)(args:List V)(h:Heap)(Q:V->Heap->Prop)(X:Value->Heap->Prop):Prop:=
 ∀ {σ:Type} (Y:Hd σ) (s:σ),FnX P Y f args h s (fun v h' s'=>Q v h'/\s'=s) fun pv h' s'=>X pv h'/\s'=s
def qqf{σ:Type}(Y:Hd σ)(X:Value->Heap->σ->Prop):Hd σ:={ y:=Y.y,p:=fun pv _ h s=>RetA [] h s fun _ h' s'=>X pv h' s' }
section
variable {P : Program} {T : Tys} {σ : Type}
theorem qdy{cx:Cx σ}{L:Loc}{F0:Nat->Nat}{w0:World}{h:Heap}{s:σ}{fn:Func}{tmps:Array Value}{R:Ending->World->Prop}{ch:List PanicEntry}:∀ (m:List Nat) {F:Nat->Nat} {w:World},HeapOk cx L F h s w->Tr F0 w0 F w ->
  (∀ b∈m,w.heap[b]?=some (.deferred (some []))/\¬ cx.C s b)->m.Nodup->(∀ w',HeapOk cx L F h s w'->Tr F w F w'->R (.panicked ch) w') ->
  LeavesInM Fence.wide 0 P fn tmps R (m.map mark) (.panicking ch) w
 | [],F,w,hh,tr,hm,hn,hR=>by
  simp only[List.map_nil,LeavesInM,LeavesIn];exact hR w hh (Tr.refl F w)
 | b::m,F,w,hh,tr,hm,hn,hR=>by
  obtain⟨hb,hC⟩:=hm b (List.mem_cons_self ..);obtain⟨hh',tr'⟩:=hh.unmark hb hC;simp only[List.map_cons,LeavesInM];refine⟨by simp,.inl ⟨b,w.putObj b (.deferred none),rfl,?_,?_⟩⟩
  ·simp[Instr.takeDeferred,Sem.run_bind,getObj,setObj,Sem.run,hb,Result.andThen,World.putObj]
  ·have hnd:=List.nodup_cons.1 hn
   refine qdy m hh' (Tr.trans tr tr') (fun x hx=>?_) hnd.2 fun w' h1 h2=>hR w' h1 (Tr.trans tr' h2);have hxb:x≠b:=by rintro rfl;exact hnd.1 hx
   refine⟨?_,(hm x (List.mem_cons_of_mem _ hx)).2⟩;rw[<- (hm x (List.mem_cons_of_mem _ hx)).1];simp[World.putObj,Array.getElem?_setIfInBounds_ne (Ne.symm hxb)]
theorem qjS(hm:P.follows .mixedOrders=true)(hT:qJ P T){Y:Hd σ}{f:FuncId}{fn:Func}{c:Code}(hf:P.funcs[f]?=some fn)(hb:fn.body=some c){ft:FT}{args:List V}(hok:fnB ft fn args.length=true)
  {h:Heap} {s:σ} {Q:V->Heap->σ->Prop} {X:Value->Heap->σ->Prop} (hw:wpA P T ft (qqf Y X) c ⟨zP 0 args,h,s⟩ (fnK T fn.results.toList Q)):FnX P Y f args h s Q X:=by
 unfold fnB at hok;rw[hb]at hok;simp only[Bool.and_eq_true,bne_iff_ne,ne_eq]at hok;obtain⟨⟨⟨⟨hcode,hdraws⟩,hnt⟩,hname⟩,hlen⟩:=hok;have hnt:=Nat.le_of_ble_eq_true hnt;have hlen:=Nat.le_of_ble_eq_true hlen;refine⟨fun vs w=>by simp[callFunc,hf,hname,hb,Go.mark],fun cx hY L F vals w hh hr=>?_⟩;have hvl:vals.size=args.length:=by simpa using hr.length
 have hsz:(vals++Array.replicate (fn.ntmps-vals.size) undef).size=fn.ntmps:=by simp;omega
 refine callsIn_of_wp_marks hf hb trivial ?_;have hg:Good { cx with pρ:=L.ρ,pκ:=L.κ,base:=[] } none [] L F ⟨zP 0 args,h,s⟩ { tmps:=vals++Array.replicate (fn.ntmps-vals.size) undef,defers:=[] } w:=by
  refine⟨⟨hh.hg,hh.csz,hh.fresh,hh.obj,hh.own,hh.inj⟩,fun t v ht=>?_,rfl,(fun b hb=>by cases hb),List.nodup_nil,(fun l hl=>by cases hl),fun _ _=>⟨rfl,rfl⟩,by rw[hsz];exact hnt⟩;obtain⟨k,hk,hv⟩:=qbO ht;rw[Nat.zero_add]at hk;subst hk;obtain⟨x,hx,hrx⟩:=hr.get t hv;refine⟨x,?_,hrx⟩;have hlt:t<vals.size:=by
   have:=(List.getElem?_eq_some_iff.1 hx).1;simpa using this
  rw[Array.getElem?_append_left hlt];simpa using hx
 have hY':Handles P (qqf Y X) { cx with pρ:=L.ρ,pκ:=L.κ,base:=[] }:=by
  refine⟨?_,hY.laid⟩;intro l hl args h s Q hy L' F' vals w hh' hr;obtain⟨fn,tmps,asg,body,h1,h2⟩:=hY.yld l hl args h s Q hy L' F' vals w ⟨hh'.hg,hh'.csz,hh'.fresh,hh'.obj,hh'.own,hh'.inj⟩ hr;refine⟨fn,tmps,asg,body,h1,h2.mono ?_⟩;rintro e w' ⟨x,he,v,h',s',L'',F'',hq,hh'',rest⟩;exact⟨x,he,v,h',s',L'',F'',hq,⟨hh''.hg,hh''.csz,hh''.fresh,hh''.obj,hh''.own,hh''.inj⟩,rest⟩
 have hwp:=zq hT c (qd hm hT hdraws) ⟨zP 0 args,h,s⟩ _ hw _ hY' none [] L F _ w hg (by rw[hsz];exact hcode);have hwp:c.wpIn Fence.wide 0 P _ { tmps:=vals++Array.replicate (fn.ntmps-vals.size) undef,defers:=[] } w:=hwp;refine wpIn_mono hwp fun ex a' w' hq=>?_
 rcases hq with⟨e',st',m',L',F',rfl,hk,hg',tr,hs⟩ | ⟨pv,e',h',s',m',L',F',rfl,hy,hg',tr,hs⟩
 case inr=>
  show LeavesInM Fence.wide 0 P fn a'.tmps _ a'.defers (.panicking [{ v:=pv,recovered:=false }]) w';rw[hg'.dfr,List.append_nil];refine qdy m' hg'.heap tr hg'.mks hg'.mnd fun w'' hh'' tr''=>?_;obtain⟨hy⟩:=(show RetA [] h' s' (fun _ h' s'=>X pv h' s') from hy);obtain⟨v,h2,L2,F2,hx,hh2,_,tr2,pin2⟩:=hy cx L' F' [] w'' ⟨hh''.hg,hh''.csz,hh''.fresh,hh''.obj,hh''.own,hh''.inj⟩ rfl;refine .inr ⟨pv,h2,s',L2,F2,rfl,hx,hh2,Tr.trans tr (Tr.trans tr'' tr2),fun i hi=>?_⟩;obtain⟨p1,p2⟩:=pin2 i hi;obtain⟨p3,p4⟩:=hg'.pin i hi;exact⟨p1.trans p3,p2.trans p4⟩
 have fin:fnK T fn.results.toList Q .normal st'->LeavesInM Fence.wide 0 P fn a'.tmps (fun e w'=>(∃ x,e = .returned x /\ ∃ v h' s' L' F',Q v h' s'/\HeapOk cx L' F' h' s' w'/\RepV cx.yv L' F' w' v x/\Tr F w F' w'/\qdV L L') \/
   ∃ pv h' s' L' F',e = .panicked [{ v:=pv,recovered:=false }]/\X pv h' s'/\HeapOk cx L' F' h' s' w'/\Tr F w F' w'/\qdV L L') a'.defers .returning w':=by
  intro hk;rw[hg'.dfr,List.append_nil];refine qbx m' hg'.heap tr hg'.mks hg'.mnd fun w'' hh'' tr''=>?_;obtain⟨e1,h1,s1⟩:=st';have hk:qnP T e1 h1 fn.results.toList fun l=>RetA l h1 s1 Q:=hk;obtain⟨l,⟨hret⟩,hrun⟩:=qhq (P:=P) hT hk;have hg'':Good { cx with pρ:=L.ρ,pκ:=L.κ,base:=[] } none [] L' F' ⟨e1,h1,s1⟩ { a' with defers:=[] } w'':=by
   refine⟨hh'',fun t v ht=>?_,rfl,(fun b hb=>by cases hb),List.nodup_nil,(fun l hl=>by cases hl),hg'.pin,hg'.tsz⟩;obtain⟨x,hx,hrx⟩:=hg'.env t v ht;exact⟨x,hx,RepV.mono tr'' v x (fun _ _=>⟨rfl,rfl⟩) hrx⟩
  obtain⟨vals',hres,hrep⟩:=hrun hg'';obtain⟨v,h',L2,F2,hq,hh2,hr2,tr2,pin2⟩:=hret cx L' F' vals' w'' ⟨hh''.hg,hh''.csz,hh''.fresh,hh''.obj,hh''.own,hh''.inj⟩ hrep;refine⟨_,qbh hres,.inl ⟨_,rfl,v,h',s1,L2,F2,hq,hh2,hr2,Tr.trans tr (Tr.trans tr'' tr2),fun i hi=>?_⟩⟩;obtain⟨p1,p2⟩:=pin2 i hi;obtain⟨p3,p4⟩:=hg'.pin i hi;exact⟨p1.trans p3,p2.trans p4⟩
 cases e' with
 | normal=>exact fin hk
 | ret=>exact fin hk
 | exit i=>exact hk.elim
def qpe(d:Option Nat)(e:Env):Env:=
 match d with
 | some d=>cut e d
 | none=>e
theorem qiH:∀ {e:Env} {d s:Nat} {v:V},get (cut e d) s=some v->s≠d/\get e s=some v
 | [],_,_,_,h=>by cases h
 | (k,u)::r,d,s,v,h=>by
  simp only[cut]at h
  split at h
  ·rename_i hk
   obtain⟨h1,h2⟩:=qiH h;refine⟨h1,?_⟩;simp only[get]
   split
   ·rename_i hs
    have:=Nat.eq_of_beq_eq_true hk;have:=Nat.eq_of_beq_eq_true hs;omega
   ·exact h2
  ·rename_i hk
   simp only[get]at h ⊢
   split at h
   ·rename_i hs
    refine⟨fun e=>?_,h⟩;subst e;rw[hs]at hk
    cases hk
   ·exact qiH h
theorem Good.unput{cx:Cx σ}{r:Option Nat}{m:List Nat}{L:Loc}{F:Nat->Nat}{e:Env}{h:Heap}{s:σ}{a:Act}{w:World}{d:Option Nat}{x:Value}(hg:Good cx r m L F ⟨e,h,s⟩ (a.put d x) w):Good cx r m L F ⟨qpe d e,h,s⟩ a w:=by
 refine⟨hg.heap,fun t v ht=>?_,?_,hg.mks,hg.mnd,hg.lk,hg.pin,?_⟩
 ·cases d with
  | none=>exact hg.env t v ht
  | some d=>
   obtain⟨h1,h2⟩:=qiH ht;obtain⟨y,h3,h4⟩:=hg.env t v h2;refine⟨y,?_,h4⟩;rw[<- h3];simp[Act.put,Array.getElem?_setIfInBounds_ne (Ne.symm h1)]
 ·have:=hg.dfr
  cases d<;>exact this
 ·have:=hg.tsz
  cases d<;>simpa[Act.put]using this
theorem qgM{Y:Hd σ}{f:FuncId}{args0:List V}{h0:Heap}{s:σ}{Q:V->Heap->σ->Prop}{X:Value->Heap->σ->Prop}(hf:FnX P Y f args0 h0 s Q X)(tb:List Nat){e:Env}{h:Heap}{d:Option Nat}{args:List V}{K:St σ->Prop}
  (hargs:qlW (qaa tb (d.getD 0)) args0=args) (hlent:qbP (qaa tb (d.getD 0)) h 1000000 tb h0) (htb:qby tb=true) (hln:Nat.ble tb.length 1000=true)
  (hq:∀ v h1 s',Q v h1 s'->qbi tb d v h1=true/\qD (zr tb d v h1) e h fun e h=>K ⟨e,h,s'⟩)
  (hx:∀ pv h1 s',X pv h1 s'->qbi tb d (.d (.tup [])) h1=true/\qD (zr tb d (.d (.tup [])) h1) e h fun e h=>Y.p pv (qpe d e) h s'):CallA P Y ⟨e,h,s⟩ d f args K:=by
 refine⟨hf.enter,fun cx hY r m L F a w vals hg hd hr=>?_⟩;have htb:=jR htb;have hln:=Nat.le_of_ble_eq_true hln;obtain⟨R,hR⟩:∃ R,R=qaa tb (d.getD 0):=⟨_,rfl⟩;have Rlent:∀ k id,tb[k]?=some id->R (1000000+k)=id:=fun k id hk=>by rw[hR];exact qdf hk hln
 rw[<- hR]at hargs hlent;subst hargs;have hh:qam h (St.mk e h s).heap:=fun _ _ h=>h;have hH:=qgm hh hlent Rlent htb hg;have hH0:HeapOk (qlj cx s w F (qkx R L h0)) ⟨fun i=>L.ρ (R i),fun i=>L.κ (R i)⟩ F h0 s w:=
  ⟨⟨hg.heap.hg,Nat.le_refl _,fun b hb hc=>hc,fun b hb hl hc=>⟨rfl,rfl⟩⟩,fun b hb=>hb.elim (hg.heap.csz b) (fun h=>h.1),hH.fresh,hH.obj,fun i o hi hbk=>⟨(hH.own i o hi hbk).1,fun hC=>hC.elim (hH.own i o hi hbk).2 fun hC=>hC.2 ⟨i,o,hi,hbk,rfl⟩⟩,hH.inj⟩
 have hargs':RepVL cx.yv ⟨fun i=>L.ρ (R i),fun i=>L.κ (R i)⟩ F w args0 vals.toList:=(RepVL.ren (R:=R) args0 _ fun _ _=>⟨rfl,rfl⟩).1 hr;have hcall:=hf.run _ (qbG hY) _ F vals w hH0 hargs';refine hcall.mono ?_;rintro en w' (⟨x,rfl,v,h',s',L',F',hq',hH',hv,tr,pin⟩ | ⟨pv,h',s',L',F',rfl,hx',hH',tr,pin⟩)
 ·obtain⟨hB,hk⟩:=hq _ _ _ hq'
  obtain⟨hHG,_,hCn,hkeep⟩:=hH'.hg;obtain⟨L2,hg2⟩:=qdh hB hR.symm hh hlent hg hd hHG (fun b hb=>hH'.csz b (.inl hb)) (fun b hb hl hc=>hCn b hb hc) hkeep hH'.fresh hH'.obj
   (fun i o hi hb=>⟨(hH'.own i o hi hb).1,fun hC=>(hH'.own i o hi hb).2 (.inl hC),fun hlt=>Classical.byContradiction fun hl=>(hH'.own i o hi hb).2 (.inr ⟨hlt,hl⟩)⟩)
   hH'.inj hv tr pin
  rw[zh s']at hk;have hs2:(qp (⟨e,h,s'⟩:St σ) (zr tb d v h')).s=s':=zF _ _;refine .inl ⟨x,rfl,_,L2,F',?_,hg2,tr⟩;generalize qp (⟨e,h,s'⟩:St σ) (zr tb d v h')=st2 at hk hs2;obtain⟨e2,h2,s2⟩:=st2;simp only at hs2;subst hs2;exact hk
 ·obtain⟨hB,hk⟩:=hx _ _ _ hx'
  obtain⟨hHG,_,hCn,hkeep⟩:=hH'.hg;obtain⟨L2,hg2⟩:=qdh (v:=.d (.tup [])) (x:=.tuple #[]) hB hR.symm hh hlent hg hd hHG (fun b hb=>hH'.csz b (.inl hb)) (fun b hb hl hc=>hCn b hb hc) hkeep hH'.fresh hH'.obj
   (fun i o hi hb=>⟨(hH'.own i o hi hb).1,fun hC=>(hH'.own i o hi hb).2 (.inl hC),fun hlt=>Classical.byContradiction fun hl=>(hH'.own i o hi hb).2 (.inr ⟨hlt,hl⟩)⟩)
   hH'.inj ⟨#[],rfl,rfl⟩ tr pin
  rw[zh s']at hk;have hs2:(qp (⟨e,h,s'⟩:St σ) (zr tb d (.d (.tup [])) h')).s=s':=zF _ _;generalize qp (⟨e,h,s'⟩:St σ) (zr tb d (.d (.tup [])) h')=st2 at hk hs2 hg2;obtain⟨e2,h2,s2⟩:=st2;simp only at hs2;subst hs2;exact .inr ⟨pv,qpe d e2,h2,s2,L2,F',rfl,hk,hg2.unput,tr⟩
end
end Go.PX
namespace Go.PX
open Go.Proofs
open Go.RowKit
def qiI:Value:=.iface 27 (.int .i64 6)
theorem FnU.ofX{P:Program}{f:FuncId}{args:List V}{h:Heap}{Q:V->Heap->Prop}{X:Value->Heap->Prop}(hf:qoC P f args h Q X)(hx:∀ v h,¬ X v h):FnU P f args h Q:=by
 intro σ Y s;obtain⟨h1,h2⟩:=hf Y s;refine⟨h1,fun cx hY L F vals w hh hr=>(h2 cx hY L F vals w hh hr).mono ?_⟩;rintro e w' (h3 | ⟨pv,h',s',L',F',he,hx',_⟩)
 ·exact h3
 ·exact absurd hx'.1 (hx _ _)
theorem pa96(b:Bool):qoC Tryz.prog 96 [.d (.bool b)] [] (fun v h'=>b=true/\v = .d (.tup [])/\h' = []) (fun pv h'=>b=false/\pv=qiI/\h' = []):=by
 intro σ Y st;refine qjS mixed qh Tryz.func96 rfl (ft:=qqa) (args:=[.d (.bool b)]) (show fnB qqa Tryz.f96 1=true from by decide +kernel) ?_
 cases b with
 | true=>
  conv=>whnf
  exact qq [] [] [] rfl trivial rfl ⟨⟨rfl,rfl,rfl⟩,rfl⟩
 | false=>
  conv=>whnf
  exact qq [] [] [] rfl trivial rfl ⟨⟨rfl,rfl,rfl⟩,rfl⟩
theorem jJ{σ:Type}{Y:Hd σ}{e:Env}{h:Heap}{s:σ}{d:Option Nat}{b:Bool}{K:St σ->Prop}(hd:qbi [] d (.d (.tup [])) []=true)
  (ht:b=true->qD (zr [] d (.d (.tup [])) []) e h fun e h=>K ⟨e,h,s⟩) (hf:b=false->qD (zr [] d (.d (.tup [])) []) e h fun e h=>Y.p qiI (qpe d e) h s):CallA Tryz.prog Y ⟨e,h,s⟩ d 96 [.d (.bool b)] K:=by
 refine qgM (pa96 b Y s) [] rfl rfl rfl rfl ?_ ?_
 ·rintro v h1 s' ⟨⟨hb,rfl,rfl⟩,rfl⟩
  exact⟨hd,ht hb⟩
 ·rintro pv h1 s' ⟨⟨hb,rfl,rfl⟩,rfl⟩
  exact⟨hd,hf hb⟩
def qpf(s:ByteArray):Int:=
 match Lib.atoiAll s.data.toList with
 | .range=>Lib.atoiSat s.data.toList
 | _=>0
theorem pa125_bad(s:ByteArray)(hs:s.size<=1000000000)(h:jv s=none):FnV Tryz.prog 125 [.str s] (.tup [i64 (qpf s),.ifc 218 (.ref [])]):=by
 refine qcY (enters Tryz.func125 rfl (by decide +kernel)) fun vals w F hl hf hr=>?_;rw[qlH hr];obtain⟨t1,v1,hs1⟩:=hl.syn 1 (by kernel_rfl);obtain⟨t2,v2,hs2⟩:=hl.rng 2 (by kernel_rfl)
 rcases hA:Lib.atoiAll s.data.toList with v | _ | _
 ·unfold jv at h
  rw[hA]at h
  cases h
 ·have hsat:qpf s=0:=by unfold qpf;rw[hA]
  rw[hsat];refine(Any.strconv_Atoi_syntax Tryz.laysC172 s (by omega) hA _ w hs1 (.inr ⟨_,_,rfl⟩)).mono ?_;rintro e w' ⟨N,rfl,hN,hblk,hb⟩;exact⟨_,rfl,Grown.of hb,F,fun _ _=>rfl,fun b hb'=>hf b (Nat.le_trans hb.size hb'),_,rfl,_,_,rfl,rfl,_,_,rfl,⟨_,rfl,_,_,rfl,trivial⟩,rfl⟩
 ·have hsat:qpf s=Lib.atoiSat s.data.toList:=by unfold qpf;rw[hA]
  rw[hsat];refine(Any.strconv_Atoi_range Tryz.laysC172 s (by omega) hA _ w hs2 (.inr ⟨_,_,rfl⟩)).mono ?_;rintro e w' ⟨N,rfl,hN,hblk,hb⟩;exact⟨_,rfl,Grown.of hb,F,fun _ _=>rfl,fun b hb'=>hf b (Nat.le_trans hb.size hb'),_,rfl,_,_,rfl,rfl,_,_,rfl,⟨_,rfl,_,_,rfl,trivial⟩,rfl⟩
theorem qqg(s:ByteArray)(hs:s.size<=1000000000):qoC Tryz.prog 97 [.d (.str s)] [] (fun v h'=>∃ n,jv s=some n/\v = .d (i64 n)/\h' = []) (fun pv h'=>jv s=none/\pv=qiI/\h' = []):=by
 intro σ Y st;refine qjS mixed qh Tryz.func97 rfl (ft:=qqb) (args:=[.d (.str s)]) (show fnB qqb Tryz.f97 1=true from by decide +kernel) ?_;conv=>whnf
 cases hA:jv s with
 | some n=>
  refine qe (pa125 s n hs hA) rfl rfl ?_;conv=>whnf
  refine jJ rfl (fun _=>?_) (fun h=>by cases h);conv=>whnf
  exact qq [] [.d (i64 n)] [] rfl trivial rfl ⟨⟨n,rfl,rfl,rfl⟩,rfl⟩
 | none=>
  refine qe (pa125_bad s hs hA) rfl rfl ?_;conv=>whnf
  refine jJ rfl (fun h=>by cases h) (fun _=>?_);conv=>whnf
  exact qq [] [] [] rfl trivial rfl ⟨⟨rfl,rfl,rfl⟩,rfl⟩
end Go.PX
namespace Go.PX
open Go.Proofs
def spB:ByteArray:=⟨#[32]⟩
def nlB:ByteArray:=⟨#[10]⟩
inductive Wd where
 | s (b:ByteArray)
 | n (k:Int)
def Wd.d:Wd->D
 | .s b=>.ifc 9 (.str b)
 | .n k=>.ifc 3 (i64 k)
def Wd.b:Wd->ByteArray
 | .s b=>b
 | .n k=>qkI k
def qft:List Wd->ByteArray
 | []=>.empty
 | w::r=>(spB++w.b)++qft r
def qew:List Wd->ByteArray
 | []=>.empty
 | w::r=>w.b++qft r
def rowT(l:List Wd):ByteArray:=qew l++nlB
def qmd(l:List Wd):D:=.vs (l.map fun w=>[w.d])
def qjT:Wd->Prop
 | .s b=>b.size<=1000
 | .n k=>-1000000000000000000<=k/\k<=1000000000000000000
theorem jI(a b c:ByteArray):a++b++c=a++(b++c):=by simp[ByteArray.append_assoc]
theorem qW(a b:ByteArray):(a++b).size=a.size+b.size:=by simp
theorem ba_nil(a:ByteArray):a++ByteArray.empty=a:=by simp
theorem qdR{w:Wd}(h:qjT w):w.b.size<=1000:=by
 cases w with
 | s b=>exact h
 | n k=>have:=numB_size k;show(qkI k).size<=1000;omega
theorem qex:∀ {l:List Wd},(∀ w∈l,qjT w)->(qft l).size<=1001*l.length
 | [],_=>Nat.zero_le _
 | w::r,h=>by
  have h1:=qex (l:=r) fun x hx=>h x (List.mem_cons_of_mem _ hx);have h2:=qdR (h w (List.mem_cons_self ..));have h3:spB.size=1:=rfl;rw[qft,qW,qW,List.length_cons];omega
theorem qlI(b:ByteArray)(h0:0<b.size)(hm:b.size+1<=140737488355328):FnU Tryz.prog 118 [.ptr 1000000 0,.d (.int .u8 32)] (qfs 1000000 1000001 b) fun v h'=>v = .d .nili/\h'=qfs 1000000 2000000 (b++⟨#[32]⟩):=by
 intro σ Y st;refine qao mixed qh Tryz.func118 rfl (ft:=qnC) (args:=[.ptr 1000000 0,.d (.int .u8 32)]) (show fnB qnC Tryz.f118 2=true from by decide +kernel) ?_;conv=>whnf
 refine qI (qeX b) [1000000,1000001] rfl ⟨_,_,rfl,rfl,_,_,rfl,rfl,rfl⟩ rfl ?_;conv=>whnf
 refine zo (by simp[h0];exact hm) ?_;conv=>whnf
 exact qq [14] [.d .nili] (qfs 1000000 2000000 (b++⟨#[32]⟩)) rfl ⟨rfl,rfl,trivial⟩ rfl ⟨⟨rfl,rfl⟩,rfl⟩
theorem qnI(b:ByteArray)(h0:0<b.size)(l:List Wd)(hl:l.length<=10)(hw:∀ w∈l,qjT w)(hb:b.size<=1000000000)(hne:l ≠ []) :
  FnU Tryz.prog 117 [.d (qmd l),.ptr 1000000 0] (qfs 1000000 1000001 b) fun v h'=>v = .d (.tup [])/\h'=qfs 1000000 2000000 (b++rowT l):=by
 intro σ Y st;refine qao mixed qh Tryz.func117 rfl (ft:=qnB) (args:=[.d (qmd l),.ptr 1000000 0]) (show fnB qnB Tryz.f117 2=true from by decide +kernel) ?_;conv=>whnf
 generalize hT:b++qew l=tot;have hts:tot.size<=1000020000:=by
  rw[<- hT,qW]
  cases l with
  | nil=>exact absurd rfl hne
  | cons w r=>
   have h1:=qdR (hw w (List.mem_cons_self ..));have h2:=qex fun x hx=>hw x (List.mem_cons_of_mem w hx);rw[qew,qW];rw[List.length_cons]at hl;omega
 refine zf (T:=tys) qh (by exact qd mixed qh (by decide +kernel)) l (fun i (acc:ByteArray)=>⟨[(1,.ptr 1000000 0),(7,.d (qmd l)),(8,.d (i64 l.length)),(9,.d (i64 i))],qfs 1000000 900000 acc,st⟩) (fun i r acc=>acc++(if i=0 then qew r else qft r)=tot/\0<acc.size) b ?_ ⟨hT,h0⟩ ?_ ?_
 ·exact(Wk.move 1000001 900000 rfl rfl).trans (Wk.sub (by repeat' first|exact trivial|refine⟨?_,?_⟩|rfl|(simp only[List.length_map];rfl)|simp[PX.get]) (by repeat' first|exact trivial|refine⟨?_,?_⟩|rfl|(simp only[List.length_map];rfl)|simp[PX.get]))
 ·rintro i w r acc hx hi hir ⟨hacc,ha⟩
  have hwo:=hw w (List.mem_of_getElem? hx);have hws:=qdR hwo;have hras:acc.size<=tot.size:=by rw[<- hacc,qW];omega
  conv=>whnf
  refine qg (fun _=>?_) (fun h=>absurd hi (by simpa using h));conv=>whnf
  refine qy hx ?_;conv=>whnf
  refine qg (fun h1=>?_) (fun h1=>?_)
  ·have h1:0<i:=by have:=of_decide_eq_true h1;omega
   rw[if_neg (by omega),qft]at hacc;conv=>whnf
   refine CallA.wkK ?_;refine qI (qlI acc ha (by omega)) [1000000,900000] rfl ⟨_,_,rfl,rfl,_,_,rfl,rfl,rfl⟩ rfl ?_;refine⟨⟨[(1,.ptr 1000000 0),(7,.d (qmd l)),(8,.d (i64 l.length)),(9,.d (i64 i)),(3,.d (i64 i)),(4,.d w.d)],qfs 1000000 900000 (acc++(⟨#[32]⟩:ByteArray)),st⟩,(Wk.move 101024 900000 rfl rfl).trans (Wk.sub (by repeat' first|exact trivial|refine⟨?_,?_⟩|rfl|(simp only[List.length_map];rfl)|simp[PX.get]) (by repeat' first|exact trivial|refine⟨?_,?_⟩|rfl|(simp only[List.length_map];rfl)|simp[PX.get])),?_⟩
   cases w with
   | s x=>
    have hws:x.size<=1000:=hws;conv=>whnf
    refine qI (qmc (acc++(⟨#[32]⟩:ByteArray)) x (by rw[qW];omega) (by have:(⟨#[32]⟩:ByteArray).size=1:=rfl;rw[qW];omega)) [1000000,900000] rfl ⟨_,_,rfl,rfl,_,_,rfl,rfl,rfl⟩ rfl ?_;conv=>whnf
    refine qj (((i+1:Nat):Int)) (by(try dsimp only);omega) (qa (by(try dsimp only);omega)) ?_;conv=>whnf
    exact⟨(acc++(⟨#[32]⟩:ByteArray))++x,⟨by rw[<- hacc,if_neg (by omega)];simp only[jI];rfl,by simp only[qW];omega⟩,(Wk.move 101408 900000 rfl rfl).trans (Wk.sub (by repeat' first|exact trivial|refine⟨?_,?_⟩|rfl|(simp only[List.length_map];rfl)|simp[PX.get]) (by repeat' first|exact trivial|refine⟨?_,?_⟩|rfl|(simp only[List.length_map];rfl)|simp[PX.get]))⟩
   | n k=>
    have hws:(qkI k).size<=1000:=hws;conv=>whnf
    refine qe (qoq k hwo) rfl rfl ?_;conv=>whnf
    refine qI (qmc (acc++(⟨#[32]⟩:ByteArray)) (qkI k) (by rw[qW];omega) (by have:(⟨#[32]⟩:ByteArray).size=1:=rfl;rw[qW];omega)) [1000000,900000] rfl ⟨_,_,rfl,rfl,_,_,rfl,rfl,rfl⟩ rfl ?_;conv=>whnf
    refine qj (((i+1:Nat):Int)) (by(try dsimp only);omega) (qa (by(try dsimp only);omega)) ?_;conv=>whnf
    exact⟨(acc++(⟨#[32]⟩:ByteArray))++qkI k,⟨by rw[<- hacc,if_neg (by omega)];simp only[jI];rfl,by simp only[qW];omega⟩,(Wk.move 101792 900000 rfl rfl).trans (Wk.sub (by repeat' first|exact trivial|refine⟨?_,?_⟩|rfl|(simp only[List.length_map];rfl)|simp[PX.get]) (by repeat' first|exact trivial|refine⟨?_,?_⟩|rfl|(simp only[List.length_map];rfl)|simp[PX.get]))⟩
  ·have h1:i=0:=by have:=of_decide_eq_false h1;omega
   subst h1;rw[if_pos rfl,qew]at hacc
   cases w with
   | s x=>
    have hws:x.size<=1000:=hws;conv=>whnf
    refine qI (qmc acc x ha (by omega)) [1000000,900000] rfl ⟨_,_,rfl,rfl,_,_,rfl,rfl,rfl⟩ rfl ?_;conv=>whnf
    refine qj (((0+1:Nat):Int)) (by(try dsimp only);omega) (qa (by(try dsimp only);omega)) ?_;conv=>whnf
    exact⟨acc++x,⟨by rw[<- hacc,if_neg (by omega)];simp only[jI];rfl,by simp only[qW];omega⟩,(Wk.move 101408 900000 rfl rfl).trans (Wk.sub (by repeat' first|exact trivial|refine⟨?_,?_⟩|rfl|(simp only[List.length_map];rfl)|simp[PX.get]) (by repeat' first|exact trivial|refine⟨?_,?_⟩|rfl|(simp only[List.length_map];rfl)|simp[PX.get]))⟩
   | n k=>
    have hws:(qkI k).size<=1000:=hws;conv=>whnf
    refine qe (qoq k hwo) rfl rfl ?_;conv=>whnf
    refine qI (qmc acc (qkI k) ha (by omega)) [1000000,900000] rfl ⟨_,_,rfl,rfl,_,_,rfl,rfl,rfl⟩ rfl ?_;conv=>whnf
    refine qj (((0+1:Nat):Int)) (by(try dsimp only);omega) (qa (by(try dsimp only);omega)) ?_;conv=>whnf
    exact⟨acc++qkI k,⟨by rw[<- hacc,if_neg (by omega)];simp only[jI];rfl,by simp only[qW];omega⟩,(Wk.move 101792 900000 rfl rfl).trans (Wk.sub (by repeat' first|exact trivial|refine⟨?_,?_⟩|rfl|(simp only[List.length_map];rfl)|simp[PX.get]) (by repeat' first|exact trivial|refine⟨?_,?_⟩|rfl|(simp only[List.length_map];rfl)|simp[PX.get]))⟩
 ·rintro acc ⟨hacc,ha⟩
  have hacc:acc=tot:=by
   rw[<- hacc]
   split<;>simp[qew,qft]
  subst hacc;conv=>whnf
  refine qg (fun h=>absurd h (by simp)) (fun _=>?_);conv=>whnf
  refine qI (qpc acc ha (by omega)) [1000000,900000] rfl ⟨_,_,rfl,rfl,_,_,rfl,rfl,rfl⟩ rfl ?_;conv=>whnf
  have he:b++rowT l=acc++nlB:=by rw[rowT,<- jI,hT]
  rw[he];exact qq [101920] [] (qfs 1000000 2000000 (acc++nlB)) rfl ⟨rfl,rfl,trivial⟩ rfl ⟨⟨rfl,rfl⟩,rfl⟩
end Go.PX
namespace Go.PX
open Go.Proofs
def bldM(acc:Option ByteArray):Heap:=match acc with
 | none=>qpa 1000000
 | some b=>qfs 1000000 900000 b
theorem pa117_new(x:ByteArray)(hx0:0<x.size)(l:List Wd)(hl:l.length<=9)(hw:∀ w∈Wd.s x::l,qjT w) :
  FnU Tryz.prog 117 [.d (qmd (.s x::l)),.ptr 1000000 0] (qpa 1000000) fun v h'=>v = .d (.tup [])/\h'=qfs 1000000 2000000 (rowT (.s x::l)):=by
 intro σ Y st;refine qao mixed qh Tryz.func117 rfl (ft:=qnB) (args:=[.d (qmd (.s x::l)),.ptr 1000000 0]) (show fnB qnB Tryz.f117 2=true from by decide +kernel) ?_;conv=>whnf
 generalize hT:qew (.s x::l)=tot;generalize hL:Wd.s x::l=L at hw;have hLl:L.length<=10:=by rw[<- hL,List.length_cons];omega
 have hL0:L[0]?=some (.s x):=by rw[<- hL];rfl
 have hts:tot.size<=1000020000:=by
  rw[<- hT];have h1:=qdR (hw (.s x) (by rw[<- hL];simp));have h2:=qex (l:=l) fun y hy=>hw y (by rw[<- hL];simp[hy]);rw[qew,qW];omega
 have hrow:rowT L=tot++nlB:=by rw[<- hL,rowT,hT]
 have hstart:x++qft (L.drop 1)=tot:=by rw[<- hL,<- hT];rfl
 rw[hrow]
 refine zy (T:=tys) qh (by exact qd mixed qh (by decide +kernel)) (α:=Nat×Option ByteArray) (fun z=>⟨[(1,.ptr 1000000 0),(7,.d (qmd L)),(8,.d (i64 L.length)),(9,.d (i64 z.1))],bldM z.2,st⟩) (fun z=>z.1<=L.length/\match z.2 with
  | none=>z.1=0
  | some acc=>0<z.1/\acc++qft (L.drop z.1)=tot/\0<acc.size) (fun z=>L.length-z.1) (0,none) ?_ ⟨Nat.zero_le _,rfl⟩ ?_
 ·exact Wk.sub ⟨rfl,rfl,congrArg (fun z:Nat=>some (V.d (i64 z))) (by simp),rfl,trivial⟩ ⟨rfl,trivial⟩
 rintro ⟨i,o⟩ ⟨hi,hacc⟩
 cases o with
 | none=>
  have hi0:i=0:=hacc;have hLi:L[i]?=some (.s x):=by rw[hi0];exact hL0
  have hil:=(List.getElem?_eq_some_iff.1 hLi).1;have hws:x.size<=1000:=qdR (hw (.s x) (List.mem_of_getElem? hL0));have hstart2:x++qft (L.drop (i+1))=tot:=by rw[hi0];exact hstart
  conv=>whnf
  refine qg (fun _=>?_) (fun h=>absurd hil (by simpa using h));conv=>whnf
  refine qy hLi ?_;conv=>whnf
  refine qg (fun h=>absurd h (by simp;omega)) (fun _=>?_);conv=>whnf
  refine qI (pa119_new x hx0 (by omega)) [1000000] rfl ⟨_,_,rfl,rfl,rfl⟩ rfl ?_;conv=>whnf
  refine qj (((i+1:Nat):Int)) (by(try dsimp only);omega) (qa (by(try dsimp only);omega)) ?_;conv=>whnf
  exact⟨(i+1,some x),by simp only;omega,⟨by simp only;omega,Nat.succ_pos i,hstart2,hx0⟩,(Wk.move 101408 900000 rfl rfl).trans (Wk.sub (by repeat' first|exact trivial|refine⟨?_,?_⟩|rfl|(simp only[List.length_map];rfl)|simp[PX.get]) (by repeat' first|exact trivial|refine⟨?_,?_⟩|rfl|(simp only[List.length_map];rfl)|simp[PX.get]))⟩
 | some acc=>
  obtain⟨h0,hacc,ha⟩:=hacc;simp only at h0 hacc ha hi;have hras:acc.size<=tot.size:=by rw[<- hacc,qW];omega
  conv=>whnf
  refine qg (fun h1=>?_) (fun h1=>?_)
  ·have h1:i<L.length:=by have:=of_decide_eq_true h1;omega
   obtain⟨w,hx⟩:∃ w,L[i]?=some w:=⟨_,List.getElem?_eq_getElem h1⟩;have hdr:L.drop i=w::L.drop (i+1):=by
    rw[List.drop_eq_getElem_cons h1];rw[List.getElem?_eq_getElem h1]at hx;rw[Option.some.inj hx]
   rw[hdr,qft]at hacc;have hwo:=hw w (List.mem_of_getElem? hx);have hws:=qdR hwo;conv=>whnf
   refine qy hx ?_;conv=>whnf
   refine qg (fun _=>?_) (fun h=>absurd h (by simp;omega));conv=>whnf
   refine CallA.wkK ?_;refine qI (qlI acc ha (by omega)) [1000000,900000] rfl ⟨_,_,rfl,rfl,_,_,rfl,rfl,rfl⟩ rfl ?_;refine⟨⟨[(1,.ptr 1000000 0),(7,.d (qmd L)),(8,.d (i64 L.length)),(9,.d (i64 i)),(3,.d (i64 i)),(4,.d w.d)],qfs 1000000 900000 (acc++(⟨#[32]⟩:ByteArray)),st⟩,(Wk.move 101024 900000 rfl rfl).trans (Wk.sub (by repeat' first|exact trivial|refine⟨?_,?_⟩|rfl|(simp only[List.length_map];rfl)|simp[PX.get]) (by repeat' first|exact trivial|refine⟨?_,?_⟩|rfl|(simp only[List.length_map];rfl)|simp[PX.get])),?_⟩
   cases w with
   | s y=>
    have hws:y.size<=1000:=hws;conv=>whnf
    refine qI (qmc (acc++(⟨#[32]⟩:ByteArray)) y (by rw[qW];omega) (by have:(⟨#[32]⟩:ByteArray).size=1:=rfl;rw[qW];omega)) [1000000,900000] rfl ⟨_,_,rfl,rfl,_,_,rfl,rfl,rfl⟩ rfl ?_;conv=>whnf
    refine qj (((i+1:Nat):Int)) (by(try dsimp only);omega) (qa (by(try dsimp only);omega)) ?_;conv=>whnf
    exact⟨(i+1,some ((acc++(⟨#[32]⟩:ByteArray))++y)),by simp only;omega,⟨by simp only;omega,by simp only;omega,by rw[<- hacc];simp only[jI];rfl,by simp only[qW];omega⟩,(Wk.move 101408 900000 rfl rfl).trans (Wk.sub (by repeat' first|exact trivial|refine⟨?_,?_⟩|rfl|(simp only[List.length_map];rfl)|simp[PX.get]) (by repeat' first|exact trivial|refine⟨?_,?_⟩|rfl|(simp only[List.length_map];rfl)|simp[PX.get]))⟩
   | n k=>
    have hws:(qkI k).size<=1000:=hws;conv=>whnf
    refine qe (qoq k hwo) rfl rfl ?_;conv=>whnf
    refine qI (qmc (acc++(⟨#[32]⟩:ByteArray)) (qkI k) (by rw[qW];omega) (by have:(⟨#[32]⟩:ByteArray).size=1:=rfl;rw[qW];omega)) [1000000,900000] rfl ⟨_,_,rfl,rfl,_,_,rfl,rfl,rfl⟩ rfl ?_;conv=>whnf
    refine qj (((i+1:Nat):Int)) (by(try dsimp only);omega) (qa (by(try dsimp only);omega)) ?_;conv=>whnf
    exact⟨(i+1,some ((acc++(⟨#[32]⟩:ByteArray))++qkI k)),by simp only;omega,⟨by simp only;omega,by simp only;omega,by rw[<- hacc];simp only[jI];rfl,by simp only[qW];omega⟩,(Wk.move 101792 900000 rfl rfl).trans (Wk.sub (by repeat' first|exact trivial|refine⟨?_,?_⟩|rfl|(simp only[List.length_map];rfl)|simp[PX.get]) (by repeat' first|exact trivial|refine⟨?_,?_⟩|rfl|(simp only[List.length_map];rfl)|simp[PX.get]))⟩
  ·have h1:¬ i<L.length:=by have:=of_decide_eq_false h1;omega
   rw[List.drop_eq_nil_of_le (by omega)]at hacc;have hacc:acc=tot:=by rw[<- hacc];simp[qft]
   subst hacc;conv=>whnf
   refine qI (qpc acc ha (by omega)) [1000000,900000] rfl ⟨_,_,rfl,rfl,_,_,rfl,rfl,rfl⟩ rfl ?_;conv=>whnf
   exact qq [101920] [] (qfs 1000000 2000000 (acc++nlB)) rfl ⟨rfl,rfl,trivial⟩ rfl ⟨⟨rfl,rfl⟩,rfl⟩
end Go.PX
namespace Go.PX
open Go.Proofs
theorem check_of{l l':PLog}(h:qA l=0)(hn:l'.near=l.near)(hl:l'.books.map PBook.name=l.books.map PBook.name)
  (hb:∀ b∈l'.books,(-720<=b.off.lo/\b.off.lo<=b.off.hi/\b.off.hi<=720)/\(-720<=b.set.lo/\b.set.lo<=b.set.hi/\b.set.hi<=720)/\b.ents.length<=8 /\ ∀ x∈b.ents,EntR x):qA l'=0:=by
 obtain⟨h1,h2,h3⟩:=qbW.1 h;have hlen:l'.books.length=l.books.length:=by have:=congrArg List.length hl;simpa using this
 refine qbW.2 ⟨by rw[hn];exact h1,by rw[hlen];exact h2,fun k b hk=>?_⟩;obtain⟨h4,h5,h6,h7⟩:=hb b (List.mem_of_getElem? hk);have hkl:=(List.getElem?_eq_some_iff.1 hk).1;obtain⟨c,hc⟩:∃ c,l.books[k]?=some c:=⟨_,List.getElem?_eq_getElem (by omega)⟩;have hname:b.name=c.name:=by
  have e1:(l'.books.map PBook.name)[k]?=some b.name:=by rw[List.getElem?_map,hk];rfl
  rw[hl,List.getElem?_map,hc]at e1;exact(Option.some.inj e1).symm
 have hh:=qcX.1 (h3 k c hc).1;refine⟨qcX.2 ⟨by rw[hname];exact hh.name,fun x hx=>?_,h4,h5,h6⟩,fun x hx=>qiC.2 (h7 x hx)⟩;have:x.name∈(l'.books.take k).map PBook.name:=List.mem_map.2 ⟨x,hx,rfl⟩;rw[List.map_take,hl,<- List.map_take]at this;obtain⟨y,hy,he⟩:=List.mem_map.1 this;rw[<- he,hname];exact hh.fresh y hy
theorem qdo{l:PLog}(h:qA l=0){b:PBook}(hb:b∈l.books):(-720<=b.off.lo/\b.off.lo<=b.off.hi/\b.off.hi<=720)/\(-720<=b.set.lo/\b.set.lo<=b.set.hi/\b.set.hi<=720)/\b.ents.length<=8 /\ ∀ x∈b.ents,EntR x:=by
 obtain⟨h1,h2,h3⟩:=qbW.1 h;obtain⟨k,hk⟩:=List.getElem?_of_mem hb;obtain⟨h4,h5⟩:=h3 k b hk;have h4:=qcX.1 h4;exact⟨h4.off,h4.set,h4.ents,fun x hx=>qiC.1 (h5 x hx)⟩
end Go.PX
namespace Go.PX
open Go.Proofs
def qm(l:List zl):List (List D):=l.map qoT
def zt(l:List (List Per)):List (List D):=l.map fun r=>[.vs (r.map Per.cells)]
def lkH(l:PLog)(wider:Int)(K:Nat)(steps:List zl)(pers:List (List Per))(many:Int):Heap:=
 [(1000000,.box (.vv [.ptr 1000002 0])),(1000001,.box (.dd [i64 wider])),(1000002,.box (.vv [.d (i64 l.near),.d (qG l.books),.sl K 5 0 steps.length,.sl 1000004 1 0 pers.length,.d (i64 many)])),(K,.arr 5 (.dd (qm steps))),(1000004,.arr 1 (.dd (zt pers)))]
theorem qme(l:PLog)(wider:Int)(hw:0<=wider/\wider<=1048576)(steps:List zl)(hs:steps.length<=1000)(pers:List (List Per))(many:Int)(hm:0<=many/\many<=1000)(p:Per)(s:Span)(hsp : -720<=s.lo/\s.lo<=s.hi/\s.hi<=720) :
  FnU Tryz.prog 112 [.d p.d,.d s.d,.ptr 1000000 0,.ptr 1000001 0] (lkH l wider 1000003 steps pers many) fun v h'=>v = .d (.tup [])/\h'=lkH l wider 2000000 (steps++jh wider p s) pers (many+1):=by
 intro σ Y st;refine qao mixed qh Tryz.func112 rfl (ft:=qoN) (args:=[.d p.d,.d s.d,.ptr 1000000 0,.ptr 1000001 0]) (show fnB qoN Tryz.f112 4=true from by decide +kernel) ?_;conv=>whnf
 refine qc (qa (by(try dsimp only);omega)) ?_;conv=>whnf
 refine qv (ds:=[]) qnE rfl rfl ?_;conv=>whnf
 refine qc (qa (by(try dsimp only);omega)) ?_;conv=>whnf
 refine qv (ds:=[]) qnE rfl rfl ?_;conv=>whnf
 refine qc (qa (by(try dsimp only);omega)) ?_;conv=>whnf
 refine qf rfl ?_;conv=>whnf
 refine qf (by simp[Els.len,qm]) ?_;conv=>whnf
 refine zo (decide_eq_true (by
  show((qm steps).length+2)*40<=140737488355328;simp[qm];omega)) ?_
 conv=>whnf
 have e1:qm (steps++jh wider p s)=qm steps ++ [[i64 (-1),i64 0,i64 p.book,i64 p.n,i64 (s.hi+wider)],[i64 p.book,i64 p.n,i64 (-1),i64 0,i64 (wider-s.lo)]]:=by
  unfold qm;rw[List.map_append];rfl
 have e2:(steps++jh wider p s).length=(qm steps).length+2:=by simp[qm,jh]
 refine qq [33] [] [(1000000,.box (.vv [.ptr 1000002 0])),(1000001,.box (.dd [i64 wider])),(1000002,.box (.vv [.d (i64 l.near),.d (qG l.books),.sl 2000000 5 0 ((qm steps).length+2),.sl 1000004 1 0 pers.length,.d (i64 (many+1))])),(2000000,.arr 5 (.dd (qm steps ++ [[i64 (-1),i64 0,i64 p.book,i64 p.n,i64 (s.hi+wider)],[i64 p.book,i64 p.n,i64 (-1),i64 0,i64 (wider-s.lo)]]))),(1000004,.arr 1 (.dd (zt pers)))] rfl ⟨zA rfl ⟨⟨rfl,rfl⟩,trivial⟩,rfl,zA rfl ⟨rfl,rfl,⟨rfl,rfl,rfl,rfl⟩,⟨rfl,rfl,rfl,rfl⟩,rfl,trivial⟩,rfl,rfl,trivial⟩ rfl ⟨⟨rfl,?_⟩,rfl⟩;unfold lkH;rw[e1,e2]
end Go.PX
namespace Go.PX
open Go.Proofs
theorem Wk.bornAtD{σ:Type}{e:Env}{h:Heap}{s:σ}(b k sz:Nat)(A B:List D){l:List D}(hk:Nat.blt k 1000000=true)(hs:Nat.blt 0 sz=true)(hb:get h b=some (.box (.dd l)))(hl:l=A ++ .nils::B)(hbk:Nat.beq b k=false) :
  Wk (⟨e,h,s⟩:St σ) ⟨jO (mapId (qE k)) e,put (((k,.arr sz (.dd []))::jO (Obj.mapId (qE k)) (cut h k))) b (.box (.vv (inj A ++ .sl k sz 0 0::inj B))),s⟩:=by
 have hk:=Nat.le_of_ble_eq_true hk;have hs:=Nat.le_of_ble_eq_true hs;have hne:b≠k:=by rintro rfl;simp at hbk
 have h1:Wk (⟨e,h,s⟩:St σ) ⟨jO (mapId (qE k)) e,((k,.arr sz (.dd []))::jO (Obj.mapId (qE k)) (cut h k)),s⟩:=by
  intro cx r m L F a w hg;exact⟨_,F,hg.newEmpty k sz (by unfold pinned;omega) hs (.dd []) rfl,Tr.refl F w⟩
 refine h1.trans (Wk.reobj b (o:=.box (.dd l)) _ (by rw[jP,if_neg hne,qU,jl,if_neg hne,hb];rfl) (fun yv L F w h=>?_) fun L hb=>hb);obtain⟨c,T,hc,hr⟩:=h;have hr:RepVL yv L F w (inj l) c.toList:=hr;rw[hl,qaU]at hr;exact⟨c,T,hc,RepVL.nil_at k sz hs hr⟩
end Go.PX
