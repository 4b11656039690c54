import Derived.Test.YtmbefpmbnhdbpaaGreatDoorPxQ
import Derived.Test.YtmbefpmbnhdbpaaGreatDoorPxJ
import Derived.Lib.SplitLaws
import Derived.Lib.IndexBytes
import Derived.Test.YtmbefpmbnhdbpaaGreatDoorPxI
import Derived.Test.YtmbefpmbnhdbpaaGreatDoorPxK
import Derived.Test.YtmbefpmbnhdbpaaGreatDoorPxL
import Derived.Test.YtmbefpmbnhdbpaaGreatDoorPxH
set_option linter.all false
set_option maxRecDepth 10000
namespace Go.PX
open Go.Proofs
open Go.Shelf
def Tryz.Dj:Go.Shelf.Ren:=⟨fun|171=>176|243=>205|246=>218|283=>231|284=>232|285=>233|286=>234|129=>242|317=>241|318=>243|319=>244|320=>245|337=>248|338=>249|n=>n,fun|3=>3|9=>9|2=>2|4=>4|171=>359|0=>0|53=>335|37=>62|5=>5|173=>361|212=>372|51=>333|20=>20|213=>373|46=>279|232=>382|233=>383|n=>n,fun|17=>3|18=>6|19=>7|n=>n⟩
theorem Tryz.Nk:Go.Proofs.LaysM.n171 Tryz.prog Tryz.Dj:={
 mixed:=by kernel_rfl
 f129:=Tryz.func242.trans (congrArg some (by kernel_rfl))
 f171:=Tryz.func176.trans (congrArg some (by kernel_rfl))
 f243:=Tryz.func205.trans (congrArg some (by kernel_rfl))
 f246:=Tryz.func218.trans (congrArg some (by kernel_rfl))
 f283:=Tryz.func231.trans (congrArg some (by kernel_rfl))
 f284:=Tryz.func232.trans (congrArg some (by kernel_rfl))
 f285:=Tryz.func233.trans (congrArg some (by kernel_rfl))
 f286:=Tryz.func234.trans (congrArg some (by kernel_rfl))
 f317:=Tryz.func241.trans (congrArg some (by kernel_rfl))
 f318:=Tryz.func243.trans (congrArg some (by kernel_rfl))
 f319:=Tryz.func244.trans (congrArg some (by kernel_rfl))
 f320:=Tryz.func245.trans (congrArg some (by kernel_rfl))
 f337:=Tryz.func248.trans (congrArg some (by kernel_rfl))
 f338:=Tryz.func249.trans (congrArg some (by kernel_rfl))
 t0:=Tryz.underlying0
 a0:=Tryz.isAgg0
 z0:=Tryz.sizeOf0
 v0:=Tryz.zeroValue0
 t2:=Tryz.underlying2
 a2:=Tryz.isAgg2
 z2:=Tryz.sizeOf2
 v2:=Tryz.zeroValue2
 t3:=Tryz.underlying3
 a3:=Tryz.isAgg3
 z3:=Tryz.sizeOf3
 v3:=Tryz.zeroValue3
 t4:=Tryz.underlying4
 a4:=Tryz.isAgg4
 z4:=Tryz.sizeOf4
 v4:=Tryz.zeroValue4
 t5:=Tryz.underlying5
 a5:=Tryz.isAgg5
 z5:=Tryz.sizeOf5
 v5:=Tryz.zeroValue5
 t9:=Tryz.underlying9
 a9:=Tryz.isAgg9
 z9:=Tryz.sizeOf9
 v9:=Tryz.zeroValue9
 t20:=Tryz.underlying20
 a20:=Tryz.isAgg20
 z20:=Tryz.sizeOf20
 v20:=Tryz.zeroValue20
 t37:=Tryz.underlying62
 a37:=Tryz.isAgg62
 z37:=Tryz.sizeOf62
 v37:=Tryz.zeroValue62
 t46:=Tryz.underlying279
 a46:=Tryz.isAgg279
 z46:=Tryz.sizeOf279
 v46:=Tryz.zeroValue279
 t51:=Tryz.underlying333
 a51:=Tryz.isAgg333
 z51:=Tryz.sizeOf333
 v51:=Tryz.zeroValue333
 t53:=Tryz.underlying335
 a53:=Tryz.isAgg335
 z53:=Tryz.sizeOf335
 v53:=Tryz.zeroValue335
 t171:=Tryz.underlying359
 a171:=Tryz.isAgg359
 z171:=Tryz.sizeOf359
 v171:=Tryz.zeroValue359
 t173:=Tryz.underlying361
 a173:=Tryz.isAgg361
 z173:=Tryz.sizeOf361
 v173:=Tryz.zeroValue361
 t212:=Tryz.underlying372
 a212:=Tryz.isAgg372
 z212:=Tryz.sizeOf372
 v212:=Tryz.zeroValue372
 t213:=Tryz.underlying373
 a213:=Tryz.isAgg373
 z213:=Tryz.sizeOf373
 t232:=Tryz.underlying382
 a232:=Tryz.isAgg382
 z232:=Tryz.sizeOf382
 v232:=Tryz.zeroValue382
 t233:=Tryz.underlying383
 a233:=Tryz.isAgg383
 z233:=Tryz.sizeOf383
 v233:=Tryz.zeroValue383
 g17:=by kernel_rfl
 g18:=by kernel_rfl
 g19:=by kernel_rfl
 i0:=by kernel_rfl
 i2:=by kernel_rfl
 i3:=by kernel_rfl
 i4:=by kernel_rfl
 i5:=by kernel_rfl
 i9:=by kernel_rfl
 i20:=by kernel_rfl
 i37:=by kernel_rfl
 i46:=by kernel_rfl
 i51:=by kernel_rfl
 i53:=by kernel_rfl
 i171:=by kernel_rfl
 i173:=by kernel_rfl
 i212:=by kernel_rfl
 i232:=by kernel_rfl
 i233:=by kernel_rfl
 m17:=by kernel_rfl
 m18:=by kernel_rfl
 m19:=by kernel_rfl }
open Go.RowKit Go.Sort Go.Lib in
theorem Tryz.strconv_Itoa (n : Int) (h0 : -9223372036854775808 <= n) (h1 : n <= 9223372036854775807) (w : World) (abd : Lib.TabIs Tryz.prog w "internal/strconv.uint64pow10" .u64 Lib.pow10Tab) :
  Calls Tryz.prog 176 #[.int .i64 n] w fun e w'=>e = .returned (.string ⟨(Lib.itoa n).toArray⟩) /\ ∃ k os,w'=grow (w.drewN k) os:=Any.strconv_Itoa Tryz.Nk n h0 h1 w abd
def Tryz.Di:Go.Shelf.Ren:=⟨fun|172=>180|244=>208|245=>209|247=>223|279=>224|280=>225|281=>226|282=>227|287=>237|316=>238|171=>176|205=>239|321=>246|322=>247|243=>205|246=>218|283=>231|284=>232|285=>233|286=>234|129=>242|317=>241|318=>243|319=>244|320=>245|337=>248|338=>249|n=>n,fun|9=>9|3=>3|75=>295|76=>297|4=>4|5=>5|167=>351|37=>62|0=>0|85=>352|2=>2|168=>354|53=>335|175=>365|46=>279|210=>369|127=>340|145=>377|143=>375|21=>21|171=>359|173=>361|212=>372|51=>333|20=>20|213=>373|232=>382|233=>383|80=>122|n=>n,fun|15=>1|16=>2|17=>3|18=>6|19=>7|n=>n⟩
theorem Tryz.zB:Go.Proofs.LaysC.n172 Tryz.prog Tryz.Di:={
 mixed:=by kernel_rfl
 f129:=Tryz.func242.trans (congrArg some (by kernel_rfl))
 f171:=Tryz.func176.trans (congrArg some (by kernel_rfl))
 f172:=Tryz.func180.trans (congrArg some (by kernel_rfl))
 f205:=Tryz.func239.trans (congrArg some (by kernel_rfl))
 f243:=Tryz.func205.trans (congrArg some (by kernel_rfl))
 f244:=Tryz.func208.trans (congrArg some (by kernel_rfl))
 f245:=Tryz.func209.trans (congrArg some (by kernel_rfl))
 f246:=Tryz.func218.trans (congrArg some (by kernel_rfl))
 f247:=Tryz.func223.trans (congrArg some (by kernel_rfl))
 f279:=Tryz.func224.trans (congrArg some (by kernel_rfl))
 f280:=Tryz.func225.trans (congrArg some (by kernel_rfl))
 f281:=Tryz.func226.trans (congrArg some (by kernel_rfl))
 f282:=Tryz.func227.trans (congrArg some (by kernel_rfl))
 f283:=Tryz.func231.trans (congrArg some (by kernel_rfl))
 f284:=Tryz.func232.trans (congrArg some (by kernel_rfl))
 f285:=Tryz.func233.trans (congrArg some (by kernel_rfl))
 f286:=Tryz.func234.trans (congrArg some (by kernel_rfl))
 f287:=Tryz.func237.trans (congrArg some (by kernel_rfl))
 f316:=Tryz.func238.trans (congrArg some (by kernel_rfl))
 f317:=Tryz.func241.trans (congrArg some (by kernel_rfl))
 f318:=Tryz.func243.trans (congrArg some (by kernel_rfl))
 f319:=Tryz.func244.trans (congrArg some (by kernel_rfl))
 f320:=Tryz.func245.trans (congrArg some (by kernel_rfl))
 f321:=Tryz.func246.trans (congrArg some (by kernel_rfl))
 f322:=Tryz.func247.trans (congrArg some (by kernel_rfl))
 f337:=Tryz.func248.trans (congrArg some (by kernel_rfl))
 f338:=Tryz.func249.trans (congrArg some (by kernel_rfl))
 t0:=Tryz.underlying0
 a0:=Tryz.isAgg0
 z0:=Tryz.sizeOf0
 v0:=Tryz.zeroValue0
 t2:=Tryz.underlying2
 a2:=Tryz.isAgg2
 z2:=Tryz.sizeOf2
 v2:=Tryz.zeroValue2
 t3:=Tryz.underlying3
 a3:=Tryz.isAgg3
 z3:=Tryz.sizeOf3
 v3:=Tryz.zeroValue3
 t4:=Tryz.underlying4
 a4:=Tryz.isAgg4
 z4:=Tryz.sizeOf4
 v4:=Tryz.zeroValue4
 t5:=Tryz.underlying5
 a5:=Tryz.isAgg5
 z5:=Tryz.sizeOf5
 v5:=Tryz.zeroValue5
 t9:=Tryz.underlying9
 a9:=Tryz.isAgg9
 z9:=Tryz.sizeOf9
 v9:=Tryz.zeroValue9
 t20:=Tryz.underlying20
 a20:=Tryz.isAgg20
 z20:=Tryz.sizeOf20
 v20:=Tryz.zeroValue20
 t21:=Tryz.underlying21
 a21:=Tryz.isAgg21
 z21:=Tryz.sizeOf21
 v21:=Tryz.zeroValue21
 t37:=Tryz.underlying62
 a37:=Tryz.isAgg62
 z37:=Tryz.sizeOf62
 v37:=Tryz.zeroValue62
 t46:=Tryz.underlying279
 a46:=Tryz.isAgg279
 z46:=Tryz.sizeOf279
 v46:=Tryz.zeroValue279
 t51:=Tryz.underlying333
 a51:=Tryz.isAgg333
 z51:=Tryz.sizeOf333
 v51:=Tryz.zeroValue333
 t53:=Tryz.underlying335
 a53:=Tryz.isAgg335
 z53:=Tryz.sizeOf335
 v53:=Tryz.zeroValue335
 t75:=Tryz.underlying295
 a75:=Tryz.isAgg295
 z75:=Tryz.sizeOf295
 v75:=Tryz.zeroValue295
 t76:=Tryz.underlying297
 a76:=Tryz.isAgg297
 z76:=Tryz.sizeOf297
 v76:=Tryz.zeroValue297
 t85:=Tryz.underlying352
 a85:=Tryz.isAgg352
 z85:=Tryz.sizeOf352
 v85:=Tryz.zeroValue352
 t127:=Tryz.underlying340
 a127:=Tryz.isAgg340
 z127:=Tryz.sizeOf340
 v127:=Tryz.zeroValue340
 t143:=Tryz.underlying375
 a143:=Tryz.isAgg375
 z143:=Tryz.sizeOf375
 v143:=Tryz.zeroValue375
 t145:=Tryz.underlying377
 a145:=Tryz.isAgg377
 z145:=Tryz.sizeOf377
 v145:=Tryz.zeroValue377
 t167:=Tryz.underlying351
 a167:=Tryz.isAgg351
 z167:=Tryz.sizeOf351
 v167:=Tryz.zeroValue351
 t168:=Tryz.underlying354
 a168:=Tryz.isAgg354
 z168:=Tryz.sizeOf354
 v168:=Tryz.zeroValue354
 t171:=Tryz.underlying359
 a171:=Tryz.isAgg359
 z171:=Tryz.sizeOf359
 v171:=Tryz.zeroValue359
 t173:=Tryz.underlying361
 a173:=Tryz.isAgg361
 z173:=Tryz.sizeOf361
 v173:=Tryz.zeroValue361
 t175:=Tryz.underlying365
 a175:=Tryz.isAgg365
 z175:=Tryz.sizeOf365
 v175:=Tryz.zeroValue365
 t210:=Tryz.underlying369
 a210:=Tryz.isAgg369
 z210:=Tryz.sizeOf369
 v210:=Tryz.zeroValue369
 t212:=Tryz.underlying372
 a212:=Tryz.isAgg372
 z212:=Tryz.sizeOf372
 v212:=Tryz.zeroValue372
 t213:=Tryz.underlying373
 a213:=Tryz.isAgg373
 z213:=Tryz.sizeOf373
 t232:=Tryz.underlying382
 a232:=Tryz.isAgg382
 z232:=Tryz.sizeOf382
 v232:=Tryz.zeroValue382
 t233:=Tryz.underlying383
 a233:=Tryz.isAgg383
 z233:=Tryz.sizeOf383
 v233:=Tryz.zeroValue383
 g15:=by kernel_rfl
 g16:=by kernel_rfl
 g17:=by kernel_rfl
 g18:=by kernel_rfl
 g19:=by kernel_rfl
 t80:=Tryz.underlying122
 a80:=Tryz.isAgg122
 z80:=Tryz.sizeOf122
 v80:=Tryz.zeroValue122
 i0:=by kernel_rfl
 i2:=by kernel_rfl
 i3:=by kernel_rfl
 i4:=by kernel_rfl
 i5:=by kernel_rfl
 i9:=by kernel_rfl
 i20:=by kernel_rfl
 i21:=by kernel_rfl
 i37:=by kernel_rfl
 i46:=by kernel_rfl
 i51:=by kernel_rfl
 i53:=by kernel_rfl
 i75:=by kernel_rfl
 i76:=by kernel_rfl
 i80:=by kernel_rfl
 i85:=by kernel_rfl
 i127:=by kernel_rfl
 i143:=by kernel_rfl
 i145:=by kernel_rfl
 i167:=by kernel_rfl
 i168:=by kernel_rfl
 i171:=by kernel_rfl
 i173:=by kernel_rfl
 i175:=by kernel_rfl
 i210:=by kernel_rfl
 i212:=by kernel_rfl
 i232:=by kernel_rfl
 i233:=by kernel_rfl
 m15:=by kernel_rfl
 m16:=by kernel_rfl
 m17:=by kernel_rfl
 m18:=by kernel_rfl
 m19:=by kernel_rfl
 c0:=by kernel_rfl
 c2:=by kernel_rfl
 c3:=by kernel_rfl
 c4:=by kernel_rfl
 c5:=by kernel_rfl
 c9:=by kernel_rfl
 c20:=by kernel_rfl
 c21:=by kernel_rfl
 c37:=by kernel_rfl
 c46:=by kernel_rfl
 c51:=by kernel_rfl
 c53:=by kernel_rfl
 c75:=by kernel_rfl
 c76:=by kernel_rfl
 c80:=by kernel_rfl
 c85:=by kernel_rfl
 c127:=by kernel_rfl
 c143:=by kernel_rfl
 c145:=by kernel_rfl
 c167:=by kernel_rfl
 c168:=by kernel_rfl
 c171:=by kernel_rfl
 c173:=by kernel_rfl
 c175:=by kernel_rfl
 c210:=by kernel_rfl
 c212:=by kernel_rfl
 c213:=by kernel_rfl
 c232:=by kernel_rfl
 c233:=by kernel_rfl }
open Go.RowKit in
theorem Tryz.strconv_Atoi_ok(s:ByteArray)(S5:s.size<=9223372036854775806)(v:Int)(h:Lib.atoiAll s.data.toList = .ok v)(w:World) :
  Calls Tryz.prog 180 #[.string s] w fun e w'=>e = .returned (.tuple #[.int .i64 v,.nilIface])/\(w'=w \/ ∃ t,w'=Lib.bytesWorld w 5 t):=Any.strconv_Atoi_ok Tryz.zB s S5 v h w
def Tryz.Fl:Go.Shelf.Ren:=⟨fun|145=>119|220=>178|219=>206|217=>219|225=>220|224=>221|267=>222|266=>235|314=>236|n=>n,fun|9=>9|4=>4|59=>232|3=>3|5=>5|46=>279|146=>363|51=>333|n=>n,fun|1=>0|n=>n⟩
theorem Tryz.PU:Go.Proofs.Lays.n145 Tryz.prog Tryz.Fl:={
 mixed:=by kernel_rfl
 f145:=Tryz.func119.trans (congrArg some (by kernel_rfl))
 f217:=Tryz.func219.trans (congrArg some (by kernel_rfl))
 f219:=Tryz.func206.trans (congrArg some (by kernel_rfl))
 f220:=Tryz.func178.trans (congrArg some (by kernel_rfl))
 f224:=Tryz.func221.trans (congrArg some (by kernel_rfl))
 f225:=Tryz.func220.trans (congrArg some (by kernel_rfl))
 f266:=Tryz.func235.trans (congrArg some (by kernel_rfl))
 f267:=Tryz.func222.trans (congrArg some (by kernel_rfl))
 f314:=Tryz.func236.trans (congrArg some (by kernel_rfl))
 t3:=Tryz.underlying3
 a3:=Tryz.isAgg3
 z3:=Tryz.sizeOf3
 v3:=Tryz.zeroValue3
 t4:=Tryz.underlying4
 a4:=Tryz.isAgg4
 z4:=Tryz.sizeOf4
 v4:=Tryz.zeroValue4
 t5:=Tryz.underlying5
 a5:=Tryz.isAgg5
 z5:=Tryz.sizeOf5
 v5:=Tryz.zeroValue5
 t9:=Tryz.underlying9
 a9:=Tryz.isAgg9
 z9:=Tryz.sizeOf9
 v9:=Tryz.zeroValue9
 t46:=Tryz.underlying279
 a46:=Tryz.isAgg279
 z46:=Tryz.sizeOf279
 v46:=Tryz.zeroValue279
 t51:=Tryz.underlying333
 a51:=Tryz.isAgg333
 z51:=Tryz.sizeOf333
 v51:=Tryz.zeroValue333
 t59:=Tryz.underlying232
 a59:=Tryz.isAgg232
 z59:=Tryz.sizeOf232
 v59:=Tryz.zeroValue232
 t146:=Tryz.underlying363
 a146:=Tryz.isAgg363
 z146:=Tryz.sizeOf363
 v146:=Tryz.zeroValue363
 g1:=by kernel_rfl }
open Go.RowKit Go.Lib in
theorem Tryz.strings_Cut(s sep:ByteArray)(m:Int)(w:World)(hs:s.size<4294967281)(hm:w.cell? ⟨0,0,none⟩=some (.int .i64 m)) :
  Calls Tryz.prog 119 #[.string s,.string sep] w fun e w'=>e = .returned (.tuple #[.string ⟨(Lib.cut s.data.toList sep.data.toList).1.toArray⟩,.string ⟨(Lib.cut s.data.toList sep.data.toList).2.1.toArray⟩,.bool (Lib.cut s.data.toList sep.data.toList).2.2]) /\ ∃ n,w'=w.drewN n:=Any.strings_Cut Tryz.PU s sep m w hs hm
def Tryz.Fm:Go.Shelf.Ren:=⟨fun|146=>124|221=>181|268=>210|138=>211|143=>212|195=>228|197=>229|218=>230|219=>206|260=>240|217=>219|225=>220|224=>221|267=>222|266=>235|314=>236|n=>n,fun|9=>9|31=>76|3=>3|4=>4|0=>0|105=>357|21=>21|5=>5|46=>279|119=>378|139=>381|138=>380|146=>363|51=>333|n=>n,fun|1=>0|3=>4|4=>5|n=>n⟩
theorem Tryz.PV:Go.Proofs.Lays.n146 Tryz.prog Tryz.Fm:={
 mixed:=by kernel_rfl
 f138:=Tryz.func211.trans (congrArg some (by kernel_rfl))
 f143:=Tryz.func212.trans (congrArg some (by kernel_rfl))
 f146:=Tryz.func124.trans (congrArg some (by kernel_rfl))
 f195:=Tryz.func228.trans (congrArg some (by kernel_rfl))
 f197:=Tryz.func229.trans (congrArg some (by kernel_rfl))
 f217:=Tryz.func219.trans (congrArg some (by kernel_rfl))
 f218:=Tryz.func230.trans (congrArg some (by kernel_rfl))
 f219:=Tryz.func206.trans (congrArg some (by kernel_rfl))
 f221:=Tryz.func181.trans (congrArg some (by kernel_rfl))
 f224:=Tryz.func221.trans (congrArg some (by kernel_rfl))
 f225:=Tryz.func220.trans (congrArg some (by kernel_rfl))
 f260:=Tryz.func240.trans (congrArg some (by kernel_rfl))
 f266:=Tryz.func235.trans (congrArg some (by kernel_rfl))
 f267:=Tryz.func222.trans (congrArg some (by kernel_rfl))
 f268:=Tryz.func210.trans (congrArg some (by kernel_rfl))
 f314:=Tryz.func236.trans (congrArg some (by kernel_rfl))
 t0:=Tryz.underlying0
 a0:=Tryz.isAgg0
 z0:=Tryz.sizeOf0
 v0:=Tryz.zeroValue0
 t3:=Tryz.underlying3
 a3:=Tryz.isAgg3
 z3:=Tryz.sizeOf3
 v3:=Tryz.zeroValue3
 t4:=Tryz.underlying4
 a4:=Tryz.isAgg4
 z4:=Tryz.sizeOf4
 v4:=Tryz.zeroValue4
 t5:=Tryz.underlying5
 a5:=Tryz.isAgg5
 z5:=Tryz.sizeOf5
 v5:=Tryz.zeroValue5
 t9:=Tryz.underlying9
 a9:=Tryz.isAgg9
 z9:=Tryz.sizeOf9
 v9:=Tryz.zeroValue9
 t21:=Tryz.underlying21
 a21:=Tryz.isAgg21
 z21:=Tryz.sizeOf21
 v21:=Tryz.zeroValue21
 t31:=Tryz.underlying76
 a31:=Tryz.isAgg76
 z31:=Tryz.sizeOf76
 v31:=Tryz.zeroValue76
 t46:=Tryz.underlying279
 a46:=Tryz.isAgg279
 z46:=Tryz.sizeOf279
 v46:=Tryz.zeroValue279
 t51:=Tryz.underlying333
 a51:=Tryz.isAgg333
 z51:=Tryz.sizeOf333
 v51:=Tryz.zeroValue333
 t105:=Tryz.underlying357
 a105:=Tryz.isAgg357
 z105:=Tryz.sizeOf357
 v105:=Tryz.zeroValue357
 t119:=Tryz.underlying378
 a119:=Tryz.isAgg378
 z119:=Tryz.sizeOf378
 t138:=Tryz.underlying380
 a138:=Tryz.isAgg380
 z138:=Tryz.sizeOf380
 v138:=Tryz.zeroValue380
 t139:=Tryz.underlying381
 a139:=Tryz.isAgg381
 z139:=Tryz.sizeOf381
 v139:=Tryz.zeroValue381
 t146:=Tryz.underlying363
 a146:=Tryz.isAgg363
 z146:=Tryz.sizeOf363
 v146:=Tryz.zeroValue363
 g1:=by kernel_rfl
 g3:=by kernel_rfl
 g4:=by kernel_rfl }
open Go.RowKit Go.Lib in
theorem Tryz.strings_Split(s sep:ByteArray)(m:Int)(w:World)(hs:s.size<4294967281)(hm:w.cell? ⟨0,0,none⟩=some (.int .i64 m))(h1:1<=sep.size) :
  Calls Tryz.prog 124 #[.string s,.string sep] w fun e w'=>
   e = .returned (.slice (some ⟨w.heap.size,0,none⟩) (Lib.countB s sep+1) (Lib.countB s sep+1))/\w'=w.alloc (.cells ((Lib.splitB sep 0 (Lib.countB s sep) s).map Value.string).toArray 9):=Any.strings_Split Tryz.PV (by kernel_rfl) s sep m w hs hm h1
theorem NN(n:Int)(h : -1000000000000000000<=n/\n<=1000000000000000000):bq Tryz.prog 176 [i64 n] (.str (tp n)):=by
 refine om (enters Tryz.func176 rfl (by decide +kernel)) fun aT w F hl hf hr=>?_;obtain⟨x,l',h1,h2,h3⟩:=hr;have h2:x = .int .i64 n:=h2;have h3:l' = []:=h3;subst h2 h3;have hv:aT = #[.int .i64 n]:=Array.ext' h1;subst hv;refine(Tryz.strconv_Itoa n (by omega) (by omega) w (hl.tab 3 (by kernel_rfl))).mono ?_;rintro e w' ⟨rfl,k,os,rfl⟩;have hx:(⟨(Lib.itoa n).toArray⟩:ByteArray)=tp n:=by rw[tp,P3 h]
 rw[hx];have dD:(Go.Sort.grow (w.drewN k) os).heap.size=w.heap.size+os.size:=by simp[Go.Sort.grow,World.drewN]
 refine⟨_,rfl,⟨rfl,rfl,rfl,by omega,fun b hb=>?_⟩,F,fun _ _=>rfl,fun b hb=>hf b (by omega),rfl⟩;show(w.heap++os)[b]?=_;rw[Array.getElem?_append_left hb]
end Go.PX
namespace Go.PX
open Go.Proofs
open Go.RowKit
def fv(c:UInt8):List UInt8->List UInt8×List UInt8×Bool
 | []=>([],[],false)
 | x::r=>if x=c then ([],r,true) else (x::(fv c r).1,(fv c r).2.1,(fv c r).2.2)
def za(x:UInt8):List (List UInt8)->List (List UInt8)
 | []=>[[x]]
 | a::t=>(x::a)::t
def gD(c:UInt8):List UInt8->List (List UInt8)
 | []=>[[]]
 | x::r=>if x=c then []::gD c r else za x (gD c r)
theorem PA(c:UInt8):Lib.index [] [c] = -1:=rfl
theorem idx_eq(c:UInt8)(r:List UInt8):Lib.index (c::r) [c]=0:=by
 rw[Lib.index_one,Lib.indexByte];simp
theorem Nb{c x:UInt8}(h:x≠c)(r:List UInt8):Lib.index (x::r) [c]=if Lib.index r [c] == -1 then -1 else Lib.index r [c]+1:=by
 rw[Lib.index_one,Lib.indexByte,Lib.index_one];simp[h]
theorem Mc(c:UInt8):∀ l:List UInt8,Lib.cut l [c]=fv c l
 | []=>by simp[Lib.cut,PA,fv]
 | x::r=>by
  rw[fv];by_cases h:x=c
  ·subst h
   rw[if_pos rfl,Lib.cut,idx_eq];simp
  ·rw[if_neg h,<- Mc c r]
   have AY:=Lib.index_ge r [c];unfold Lib.cut;rw[Nb h];by_cases h1:Lib.index r [c] = -1
   ·simp[h1]
   ·obtain⟨i,hi⟩:∃ i:Nat,Lib.index r [c]=i:=⟨(Lib.index r [c]).toNat,by omega⟩
    rw[hi];have h2:((i:Int) == -1)=false:=by first|(simp;done)|(simp;omega)
    rw[h2];have h3:(0:Int)<=(i:Int)+1:=by omega
    have h4:(0:Int)<=(i:Int):=by omega
    simp only[Bool.false_eq_true,if_false,if_pos h3,if_pos h4];have h5:((i:Int)+1).toNat=i+1:=by omega
    have h6:((i:Int)).toNat=i:=by omega
    rw[h5,h6];simp
theorem K3(c:UInt8):∀ l,gD c l ≠ []
 | []=>by simp[gD]
 | x::r=>by
  rw[gD];split
  ·simp
  ·cases gD c r<;>simp[za]
theorem Ci(c:UInt8):∀ l:List UInt8,Lib.splitK [c] 0 (l.count c) l=gD c l
 | []=>rfl
 | x::r=>by
  have ih:=Ci c r;rw[gD];by_cases h:x=c
  ·subst h
   rw[if_pos rfl,List.count_cons_self,Lib.splitK,idx_eq,<- ih];simp
  ·rw[if_neg h,List.count_cons_of_ne (by simpa using h)]
   cases hk:r.count c with
   | zero=>
    rw[hk]at ih;rw[<- ih];rfl
   | succ k=>
    rw[hk]at ih;rw[<- ih];have AY:=Lib.index_ge r [c];rw[Lib.splitK,Lib.splitK,Nb h];by_cases h1:Lib.index r [c] = -1
    ·rw[h1];simp[za]
    ·obtain⟨i,hi⟩:∃ i:Nat,Lib.index r [c]=i:=⟨(Lib.index r [c]).toNat,by omega⟩
     rw[hi];have h2:((i:Int) == -1)=false:=by first|(simp;done)|(simp;omega)
     have h3:(((i:Int)+1) == -1)=false:=by first|(simp;done)|(simp;omega)
     rw[h2];simp only[Bool.false_eq_true,if_false];rw[h3];have h5:((i:Int)+1).toNat=i+1:=by omega
     have h6:((i:Int)).toNat=i:=by omega
     simp only[Bool.false_eq_true,if_false,h5,h6,za];simp
def gB(c:UInt8)(s:ByteArray):List ByteArray:=(gD c s.data.toList).map fun l=>⟨l.toArray⟩
theorem K0(c:UInt8)(s:ByteArray):Lib.splitB ⟨#[c]⟩ 0 (Lib.countB s ⟨#[c]⟩) s=gB c s:=by
 have h:=Lib.splitB_data ⟨#[c]⟩ 0 (Lib.countB s ⟨#[c]⟩) s;have hc:Lib.countB s ⟨#[c]⟩=s.data.toList.count c:=Lib.count_one c s.data.toList;rw[hc]at h ⊢;have h2:(⟨#[c]⟩:ByteArray).data.toList = [c]:=rfl;rw[h2,Ci]at h;unfold gB;rw[<- h,List.map_map];conv=>lhs;rw[<- List.map_id (Lib.splitB ⟨#[c]⟩ 0 (s.data.toList.count c) s)]
 refine List.map_congr_left fun x _=>?_;cases x;simp
def eE(s:ByteArray):Option Int:=
 match Lib.atoiAll s.data.toList with
 | .ok v=>some v
 | _=>none
theorem Gd{F:Nat->Nat}{w:World}{s:ByteArray}{aT:Array Value}(hr:bt F w [.str s] aT.toList):aT = #[.string s]:=by
 obtain⟨x,l',h1,h2,h3⟩:=hr;have h2:x = .string s:=h2;have h3:l' = []:=h3;subst h2 h3;exact Array.ext' h1
theorem Cj{F:Nat->Nat}{w:World}{s t:ByteArray}{aT:Array Value}(hr:bt F w [.str s,.str t] aT.toList):aT = #[.string s,.string t]:=by
 obtain⟨x,l',h1,h2,y,l2,rfl,h3,h4⟩:=hr;have h2:x = .string s:=h2;have h3:y = .string t:=h3;have h4:l2 = []:=h4;subst h2 h3 h4;exact Array.ext' h1
theorem Grown.of{w w':World}(h:Below w.heap.size w w'):Grown w w':=⟨h.os,h.tape,h.output,h.size,h.block⟩
theorem XX(s:ByteArray)(v:Int)(hs:s.size<=1000000000)(h:eE s=some v):bq Tryz.prog 180 [.str s] (.tup [i64 v,.nili]):=by
 refine om (enters Tryz.func180 rfl (by decide +kernel)) fun aT w F hl hf hr=>?_;have ha:Lib.atoiAll s.data.toList = .ok v:=by
  unfold eE at h;split at h
  ·rename_i u hu;cases h;exact hu
  ·cases h
 rw[Gd hr];refine(Tryz.strconv_Atoi_ok s (by omega) v ha w).mono ?_;rintro e w' ⟨rfl,rfl|⟨t,rfl⟩⟩
 ·exact⟨_,rfl,Grown.refl _,F,fun _ _=>rfl,hf,_,rfl,_,_,rfl,rfl,_,_,rfl,rfl,rfl⟩
 ·have h2:=Lib.bytesWorld_size w 5 t
  exact⟨_,rfl,Grown.of (Lib.bytesWorld_below w 5 t),F,fun _ _=>rfl,fun b hb=>hf b (by omega),_,rfl,_,_,rfl,rfl,_,_,rfl,rfl,rfl⟩
theorem abX(s:ByteArray)(c:UInt8)(hs:s.size<=1000000000):bq Tryz.prog 119 [.str s,.str ⟨#[c]⟩] (.tup [.str ⟨(fv c s.data.toList).1.toArray⟩,.str ⟨(fv c s.data.toList).2.1.toArray⟩,.bool (fv c s.data.toList).2.2]):=by
 refine om (enters Tryz.func119 rfl (by decide +kernel)) fun aT w F hl hf hr=>?_;rw[Cj hr];obtain⟨m,hm⟩:=hl.len 0 (by kernel_rfl);have hc:=Mc c s.data.toList;refine(Tryz.strings_Cut s ⟨#[c]⟩ m w (by omega) hm).mono ?_;rintro e w' ⟨rfl,n,rfl⟩;have h2:(⟨#[c]⟩:ByteArray).data.toList = [c]:=rfl;rw[h2,hc];exact⟨_,rfl,⟨rfl,rfl,rfl,Nat.le_refl _,fun _ _=>rfl⟩,F,fun _ _=>rfl,hf,_,rfl,_,_,rfl,rfl,_,_,rfl,rfl,_,_,rfl,rfl,rfl⟩
def kA(l:List ByteArray):D:=.vs (l.map fun x=>[.str x])
theorem Aj{F:Nat->Nat}{w:World}{b:Nat}:∀ (l:List ByteArray) (off:Nat),(∀ i x,l[i]?=some x->off+i<F b/\w.cell? ⟨b,off+i,none⟩=some (.string x))->dU F w b off 1 (l.map fun x=>[D.str x])
 | [],_,_=>trivial
 | x::r,off,h=>by
  obtain⟨h1,h2⟩:=h 0 x rfl;exact⟨rfl,⟨h1,⟨_,h2,rfl⟩,trivial⟩,Aj r (off+1) fun i y hy=>by
   have:=h (i+1) y hy
   rwa [show off+(i+1)=off+1+i by omega]at this⟩
theorem ab0(s:ByteArray)(c:UInt8)(hs:s.size<=1000000000):bq Tryz.prog 124 [.str s,.str ⟨#[c]⟩] (kA (gB c s)):=by
 refine om (enters Tryz.func124 rfl (by decide +kernel)) fun aT w F hl hf hr=>?_;rw[Cj hr];obtain⟨m,hm⟩:=hl.len 0 (by kernel_rfl);refine(Tryz.strings_Split s ⟨#[c]⟩ m w (by omega) hm (Nat.le_refl 1)).mono ?_;rintro e w' ⟨rfl,rfl⟩;have hlen:=Lib.splitB_all ⟨#[c]⟩ (Nat.le_refl 1) 0 _ s rfl;rw[K0]at hlen ⊢;rw[<- hlen];generalize gB c s=l at hlen ⊢;have er:l ≠ []:=by rintro rfl;simp at hlen
 refine⟨_,rfl,⟨rfl,rfl,rfl,by simp,fun b hb=>by show(w.heap.push _)[b]?=_;rw[Array.getElem?_push_lt hb,Array.getElem?_eq_getElem hb]⟩,fun b=>if b=w.heap.size then l.length else F b,fun b hb=>if_neg (by omega),fun b hb=>?_,_,_,_,rfl,by simp,Nat.le_refl _,fun _=>⟨_,0,1,rfl,Nat.one_pos,Aj l 0 fun i x hx=>?_⟩⟩
 ·have:(w.alloc (.cells (l.map Value.string).toArray 9)).heap.size=w.heap.size+1:=by simp
  show(if b=w.heap.size then l.length else F b)=0;rw[if_neg (by omega)];exact hf b (by omega)
 ·have hi:i<l.length:=(List.getElem?_eq_some_iff.1 hx).1
  refine⟨by simp;exact hi,?_⟩;rw[cell_of_row _ _ _ _ _ _ (heap_alloc_new w _)];simp[hx]
end Go.PX
namespace Go.PX
open Go.RowKit
structure Uh{σ:Type}(P:Program)(Y:Hd σ)(f:FuncId)(args:List V)(h:Heap)(s:σ)(Q:V->Heap->σ->Prop)(X:Value->Heap->σ->Prop):Prop where
 enter:∀ (vs:Array Value) (w:World),(callFunc f vs).run P w = .ok (.enter f vs) w
 run:∀ (cx:Cx σ),cC P Y cx -> ∀ (L:Loc) (F:Nat->Nat) (aT:Array Value) (w:World),a7 cx L F h s w->aq cx.yv L F w args aT.toList ->
  CallsIn Fence.wide 0 P f aT w fun e w'=>(∃ x,e = .returned x /\ ∃ v h' s' L' F',Q v h' s'/\a7 cx L' F' h' s' w'/\br cx.yv L' F' w' v x/\Tr F w F' w'/\nz L L') \/
   ∃ pv h' s' L' F',e = .panicked [{ v:=pv,recovered:=false }]/\X pv h' s'/\a7 cx L' F' h' s' w'/\Tr F w F' w'/\nz L L'
def Jw(P:Program)(f:FuncId)(args:List V)(h:Heap)(Q:V->Heap->Prop)(X:Value->Heap->Prop):Prop:=
 ∀ {σ:Type} (Y:Hd σ) (s:σ),Uh P Y f args h s (fun v h' s'=>Q v h'/\s'=s) fun pv h' s'=>X pv h'/\s'=s
def Yh{σ:Type}(Y:Hd σ)(X:Value->Heap->σ->Prop):Hd σ:={ y:=Y.y,p:=fun pv _ h s=>p9 [] h s fun _ h' s'=>X pv h' s' }
section
variable {P : Program} {T : fA} {σ : Type}
theorem qT{cx:Cx σ}{L:Loc}{F0:Nat->Nat}{w0:World}{h:Heap}{s:σ}{fn:Func}{tmps:Array Value}{R:Ending->World->Prop}{ch:List PanicEntry}:∀ (m:List Nat) {F:Nat->Nat} {w:World},a7 cx L F h s w->Tr F0 w0 F w ->
  (∀ b∈m,w.heap[b]?=some (.deferred (some []))/\¬ cx.C s b)->m.Nodup->(∀ w',a7 cx L F h s w'->Tr F w F w'->R (.panicked ch) w') ->
  LeavesInM Fence.wide 0 P fn tmps R (m.map mark) (.panicking ch) w
 | [],F,w,hh,tr,hm,hn,hR=>by
  simp only[List.map_nil,LeavesInM,LeavesIn];exact hR w hh (Tr.refl F w)
 | b::m,F,w,hh,tr,hm,hn,hR=>by
  obtain⟨hb,hC⟩:=hm b (List.mem_cons_self ..);obtain⟨nn,pN⟩:=hh.H4 hb hC;simp only[List.map_cons,LeavesInM];refine⟨by simp,.inl ⟨b,w.putObj b (.deferred none),rfl,?_,?_⟩⟩
  ·simp[Instr.takeDeferred,Sem.run_bind,getObj,setObj,Sem.run,hb,Result.andThen,World.putObj]
  ·have vj:=List.nodup_cons.1 hn
   refine qT m nn (Tr.trans tr pN) (fun x hx=>?_) vj.2 fun w' h1 h2=>hR w' h1 (Tr.trans pN h2);have Kf:x≠b:=by rintro rfl;exact vj.1 hx
   refine⟨?_,(hm x (List.mem_cons_of_mem _ hx)).2⟩;rw[<- (hm x (List.mem_cons_of_mem _ hx)).1];simp[World.putObj,Array.getElem?_setIfInBounds_ne (Ne.symm Kf)]
theorem yV(hm:P.follows .mixedOrders=true)(hT:bA P T){Y:Hd σ}{f:FuncId}{fn:Func}{c:Code}(hf:P.funcs[f]?=some fn)(hb:fn.body=some c){ft:FT}{args:List V}(gL:oQ ft fn args.length=true)
  {h:Heap} {s:σ} {Q:V->Heap->σ->Prop} {X:Value->Heap->σ->Prop} (hw:Ct P T ft (Yh Y X) c ⟨dS 0 args,h,s⟩ (Sk T fn.results.toList Q)):Uh P Y f args h s Q X:=by
 unfold oQ at gL;rw[hb]at gL;simp only[Bool.and_eq_true,bne_iff_ne,ne_eq]at gL;obtain⟨⟨⟨⟨BJ,y9⟩,MU⟩,qG⟩,hlen⟩:=gL;have MU:=Nat.le_of_ble_eq_true MU;have hlen:=Nat.le_of_ble_eq_true hlen;refine⟨fun vs w=>by simp[callFunc,hf,qG,hb,Go.mark],fun cx hY L F aT w hh hr=>?_⟩;have Hi:aT.size=args.length:=by simpa using hr.length
 have dD:(aT++Array.replicate (fn.ntmps-aT.size) undef).size=fn.ntmps:=by simp;omega
 refine callsIn_of_wp_marks hf hb trivial ?_;have hg:Good { cx with pρ:=L.ρ,pκ:=L.κ,base:=[] } none [] L F ⟨dS 0 args,h,s⟩ { tmps:=aT++Array.replicate (fn.ntmps-aT.size) undef,defers:=[] } w:=by
  refine⟨⟨hh.hg,hh.hP,hh.fresh,hh.obj,hh.own,hh.inj⟩,fun t v ht=>?_,rfl,(fun b hb=>by cases hb),List.nodup_nil,(fun l hl=>by cases hl),fun _ _=>⟨rfl,rfl⟩,by rw[dD];exact MU⟩;obtain⟨k,hk,hv⟩:=mc ht;rw[Nat.zero_add]at hk;subst hk;obtain⟨x,hx,tL⟩:=hr.get t hv;refine⟨x,?_,tL⟩;have dh:t<aT.size:=by
   have:=(List.getElem?_eq_some_iff.1 hx).1;simpa using this
  rw[Array.getElem?_append_left dh];simpa using hx
 have hY':cC P (Yh Y X) { cx with pρ:=L.ρ,pκ:=L.κ,base:=[] }:=by
  refine⟨?_,hY.laid⟩;intro l hl args h s Q hy L' F' aT w nn hr;obtain⟨fn,tmps,xR,body,h1,h2⟩:=hY.yld l hl args h s Q hy L' F' aT w ⟨nn.hg,nn.hP,nn.fresh,nn.obj,nn.own,nn.inj⟩ hr;refine⟨fn,tmps,xR,body,h1,h2.mono ?_⟩;rintro e w' ⟨x,he,v,h',s',Lx,Ij,hq,eX,rest⟩;exact⟨x,he,v,h',s',Lx,Ij,hq,⟨eX.hg,eX.hP,eX.fresh,eX.obj,eX.own,eX.inj⟩,rest⟩
 have Ty:=eD hT c (aj hm hT y9) ⟨dS 0 args,h,s⟩ _ hw _ hY' none [] L F _ w hg (by rw[dD];exact BJ);have Ty:c.wpIn Fence.wide 0 P _ { tmps:=aT++Array.replicate (fn.ntmps-aT.size) undef,defers:=[] } w:=Ty;refine wpIn_mono Ty fun ex a' w' hq=>?_;rcases hq with⟨e',st',m',L',F',rfl,hk,dN,tr,hs⟩|⟨pv,e',h',s',m',L',F',rfl,hy,dN,tr,hs⟩
 case inr=>
  show LeavesInM Fence.wide 0 P fn a'.tmps _ a'.defers (.panicking [{ v:=pv,recovered:=false }]) w';rw[dN.tZ,List.append_nil];refine qT m' dN.heap tr dN.pB dN.xe fun xP eX xO=>?_;obtain⟨hy⟩:=(show p9 [] h' s' (fun _ h' s'=>X pv h' s') from hy);obtain⟨v,h2,L2,F2,hx,Pd,_,AK,KT⟩:=hy cx L' F' [] xP ⟨eX.hg,eX.hP,eX.fresh,eX.obj,eX.own,eX.inj⟩ rfl;refine .inr ⟨pv,h2,s',L2,F2,rfl,hx,Pd,Tr.trans tr (Tr.trans xO AK),fun i hi=>?_⟩;obtain⟨p1,p2⟩:=KT i hi;obtain⟨p3,p4⟩:=dN.jF i hi;exact⟨p1.trans p3,p2.trans p4⟩
 have fin:Sk T fn.results.toList Q .normal st'->LeavesInM Fence.wide 0 P fn a'.tmps (fun e w'=>(∃ x,e = .returned x /\ ∃ v h' s' L' F',Q v h' s'/\a7 cx L' F' h' s' w'/\br cx.yv L' F' w' v x/\Tr F w F' w'/\nz L L') \/
   ∃ pv h' s' L' F',e = .panicked [{ v:=pv,recovered:=false }]/\X pv h' s'/\a7 cx L' F' h' s' w'/\Tr F w F' w'/\nz L L') a'.defers .returning w':=by
  intro hk;rw[dN.tZ,List.append_nil];refine lP m' dN.heap tr dN.pB dN.xe fun xP eX xO=>?_;obtain⟨e1,h1,s1⟩:=st';have hk:FP T e1 h1 fn.results.toList fun l=>p9 l h1 s1 Q:=hk;obtain⟨l,⟨Hb⟩,bZ⟩:=v7 (P:=P) hT hk;have GZ:Good { cx with pρ:=L.ρ,pκ:=L.κ,base:=[] } none [] L' F' ⟨e1,h1,s1⟩ { a' with defers:=[] } xP:=by
   refine⟨eX,fun t v ht=>?_,rfl,(fun b hb=>by cases hb),List.nodup_nil,(fun l hl=>by cases hl),dN.jF,dN.ve⟩;obtain⟨x,hx,tL⟩:=dN.env t v ht;exact⟨x,hx,br.mono xO v x (fun _ _=>⟨rfl,rfl⟩) tL⟩
  obtain⟨AD,Da,qL⟩:=bZ GZ;obtain⟨v,h',L2,F2,hq,Pd,D7,AK,KT⟩:=Hb cx L' F' AD xP ⟨eX.hg,eX.hP,eX.fresh,eX.obj,eX.own,eX.inj⟩ qL;refine⟨_,kU Da,.inl ⟨_,rfl,v,h',s1,L2,F2,hq,Pd,D7,Tr.trans tr (Tr.trans xO AK),fun i hi=>?_⟩⟩;obtain⟨p1,p2⟩:=KT i hi;obtain⟨p3,p4⟩:=dN.jF i hi;exact⟨p1.trans p3,p2.trans p4⟩
 cases e' with
 | normal=>exact fin hk
 | ret=>exact fin hk
 | exit i=>exact hk.elim
def Mb(d:Option Nat)(e:Env):Env:=
 match d with
 | some d=>cut e d
 | none=>e
theorem y5:∀ {e:Env} {d s:Nat} {v:V},get (cut e d) s=some v->s≠d/\get e s=some v
 | [],_,_,_,h=>by cases h
 | (k,u)::r,d,s,v,h=>by
  simp only[cut]at h;split at h
  ·rename_i hk
   obtain⟨h1,h2⟩:=y5 h;refine⟨h1,?_⟩;simp only[get];split
   ·rename_i hs
    have:=Nat.eq_of_beq_eq_true hk;have:=Nat.eq_of_beq_eq_true hs;omega
   ·exact h2
  ·rename_i hk
   simp only[get]at h ⊢;split at h
   ·rename_i hs
    refine⟨fun e=>?_,h⟩;subst e;rw[hs]at hk;cases hk
   ·exact y5 h
theorem Good.Yy{cx:Cx σ}{r:Option Nat}{m:List Nat}{L:Loc}{F:Nat->Nat}{e:Env}{h:Heap}{s:σ}{a:Act}{w:World}{d:Option Nat}{x:Value}(hg:Good cx r m L F ⟨e,h,s⟩ (a.put d x) w):Good cx r m L F ⟨Mb d e,h,s⟩ a w:=by
 refine⟨hg.heap,fun t v ht=>?_,?_,hg.pB,hg.xe,hg.lk,hg.jF,?_⟩
 ·cases d with
  | none=>exact hg.env t v ht
  | some d=>
   obtain⟨h1,h2⟩:=y5 ht;obtain⟨y,h3,h4⟩:=hg.env t v h2;refine⟨y,?_,h4⟩;rw[<- h3];simp[Act.put,Array.getElem?_setIfInBounds_ne (Ne.symm h1)]
 ·have:=hg.tZ
  cases d<;>exact this
 ·have:=hg.ve
  cases d<;>simpa[Act.put]using this
theorem tN{Y:Hd σ}{f:FuncId}{args0:List V}{h0:Heap}{s:σ}{Q:V->Heap->σ->Prop}{X:Value->Heap->σ->Prop}(hf:Uh P Y f args0 h0 s Q X)(tb:List Nat){e:Env}{h:Heap}{d:Option Nat}{args:List V}{K:St σ->Prop}
  (dM:sq (fj tb (d.getD 0)) args0=args) (fB:jS (fj tb (d.getD 0)) h 1000000 tb h0) (rT:nodupB tb=true) (ze:Nat.ble tb.length 1000=true)
  (hq:∀ v h1 s',Q v h1 s'->fU tb d v h1=true/\bz (c8 tb d v h1) e h fun e h=>K ⟨e,h,s'⟩)
  (hx:∀ pv h1 s',X pv h1 s'->fU tb d (.d (.tup [])) h1=true/\bz (c8 tb d (.d (.tup [])) h1) e h fun e h=>Y.p pv (Mb d e) h s'):eg P Y ⟨e,h,s⟩ d f args K:=by
 refine⟨hf.enter,fun cx hY r m L F a w aT hg hd hr=>?_⟩;have rT:=gp rT;have ze:=Nat.le_of_ble_eq_true ze;obtain⟨R,hR⟩:∃ R,R=fj tb (d.getD 0):=⟨_,rfl⟩;have oe:∀ k id,tb[k]?=some id->R (1000000+k)=id:=fun k id hk=>by rw[hR];exact o8 hk ze
 rw[<- hR]at dM fB;subst dM;have hh:dR h (St.mk e h s).heap:=fun _ _ h=>h;have hH:=vD hh fB oe rT hg;have EO:a7 (Dl cx s w F (yl R L h0)) ⟨fun i=>L.ρ (R i),fun i=>L.κ (R i)⟩ F h0 s w:=
  ⟨⟨hg.heap.hg,Nat.le_refl _,fun b hb hc=>hc,fun b hb hl hc=>⟨rfl,rfl⟩⟩,fun b hb=>hb.elim (hg.heap.hP b) (fun h=>h.1),hH.fresh,hH.obj,fun i o hi iU=>⟨(hH.own i o hi iU).1,fun hC=>hC.elim (hH.own i o hi iU).2 fun hC=>hC.2 ⟨i,o,hi,iU,rfl⟩⟩,hH.inj⟩
 have vC:aq cx.yv ⟨fun i=>L.ρ (R i),fun i=>L.κ (R i)⟩ F w args0 aT.toList:=(aq.oc (R:=R) args0 _ fun _ _=>⟨rfl,rfl⟩).1 hr;have eh:=hf.run _ (mT hY) _ F aT w EO vC;refine eh.mono ?_;rintro en w' (⟨x,rfl,v,h',s',L',F',Uv,rP,hv,tr,jF⟩|⟨pv,h',s',L',F',rfl,kE,rP,tr,jF⟩)
 ·obtain⟨hB,hk⟩:=hq _ _ _ Uv
  obtain⟨uo,_,EM,iL⟩:=rP.hg;obtain⟨L2,iK⟩:=pk hB hR.symm hh fB hg hd uo (fun b hb=>rP.hP b (.inl hb)) (fun b hb hl hc=>EM b hb hc) iL rP.fresh rP.obj
   (fun i o hi hb=>⟨(rP.own i o hi hb).1,fun hC=>(rP.own i o hi hb).2 (.inl hC),fun dh=>Classical.byContradiction fun hl=>(rP.own i o hi hb).2 (.inr ⟨dh,hl⟩)⟩)
   rP.inj hv tr jF
  rw[cO s']at hk;have mM:(aL (⟨e,h,s'⟩:St σ) (c8 tb d v h')).s=s':=dG _ _;refine .inl ⟨x,rfl,_,L2,F',?_,iK,tr⟩;generalize aL (⟨e,h,s'⟩:St σ) (c8 tb d v h')=pZ at hk mM;obtain⟨e2,h2,s2⟩:=pZ;simp only at mM;subst mM;exact hk
 ·obtain⟨hB,hk⟩:=hx _ _ _ kE
  obtain⟨uo,_,EM,iL⟩:=rP.hg;obtain⟨L2,iK⟩:=pk (v:=.d (.tup [])) (x:=.tuple #[]) hB hR.symm hh fB hg hd uo (fun b hb=>rP.hP b (.inl hb)) (fun b hb hl hc=>EM b hb hc) iL rP.fresh rP.obj
   (fun i o hi hb=>⟨(rP.own i o hi hb).1,fun hC=>(rP.own i o hi hb).2 (.inl hC),fun dh=>Classical.byContradiction fun hl=>(rP.own i o hi hb).2 (.inr ⟨dh,hl⟩)⟩)
   rP.inj ⟨#[],rfl,rfl⟩ tr jF
  rw[cO s']at hk;have mM:(aL (⟨e,h,s'⟩:St σ) (c8 tb d (.d (.tup [])) h')).s=s':=dG _ _;generalize aL (⟨e,h,s'⟩:St σ) (c8 tb d (.d (.tup [])) h')=pZ at hk mM iK;obtain⟨e2,h2,s2⟩:=pZ;simp only at mM;subst mM;exact .inr ⟨pv,Mb d e2,h2,s2,L2,F',rfl,hk,iK.Yy,tr⟩
end
end Go.PX
namespace Go.PX
open Go.Proofs
open Go.RowKit
def pF:Value:=.iface 34 (.int .i64 6)
theorem tH.ofX{P:Program}{f:FuncId}{args:List V}{h:Heap}{Q:V->Heap->Prop}{X:Value->Heap->Prop}(hf:Jw P f args h Q X)(hx:∀ v h,¬ X v h):tH P f args h Q:=by
 intro σ Y s;obtain⟨h1,h2⟩:=hf Y s;refine⟨h1,fun cx hY L F aT w hh hr=>(h2 cx hY L F aT w hh hr).mono ?_⟩;rintro e w' (h3|⟨pv,h',s',L',F',he,kE,_⟩)
 ·exact h3
 ·exact absurd kE.1 (hx _ _)
theorem abZ(b:Bool):Jw Tryz.prog 121 [.d (.bool b)] [] (fun v h'=>b=true/\v = .d (.tup [])/\h' = []) (fun pv h'=>b=false/\pv=pF/\h' = []):=by
 intro σ Y st;refine yV mixed av Tryz.func121 rfl (ft:=QR) (args:=[.d (.bool b)]) (show oQ QR Tryz.f121 1=true from by decide +kernel) ?_
 cases b with
 | true=>
  conv=>whnf
  exact aK [] [] [] rfl trivial rfl ⟨⟨rfl,rfl,rfl⟩,rfl⟩
 | false=>
  conv=>whnf
  exact aK [] [] [] rfl trivial rfl ⟨⟨rfl,rfl,rfl⟩,rfl⟩
theorem fE{σ:Type}{Y:Hd σ}{e:Env}{h:Heap}{s:σ}{d:Option Nat}{b:Bool}{K:St σ->Prop}(hd:fU [] d (.d (.tup [])) []=true)
  (ht:b=true->bz (c8 [] d (.d (.tup [])) []) e h fun e h=>K ⟨e,h,s⟩) (hf:b=false->bz (c8 [] d (.d (.tup [])) []) e h fun e h=>Y.p pF (Mb d e) h s):eg Tryz.prog Y ⟨e,h,s⟩ d 121 [.d (.bool b)] K:=by
 refine tN (abZ b Y s) [] rfl rfl rfl rfl ?_ ?_
 ·rintro v h1 s' ⟨⟨hb,rfl,rfl⟩,rfl⟩
  exact⟨hd,ht hb⟩
 ·rintro pv h1 s' ⟨⟨hb,rfl,rfl⟩,rfl⟩
  exact⟨hd,hf hb⟩
def N7(s:ByteArray):Int:=
 match Lib.atoiAll s.data.toList with
 | .range=>Lib.atoiSat s.data.toList
 | _=>0
theorem KP(s:ByteArray)(hs:s.size<=1000000000)(h:eE s=none):bq Tryz.prog 180 [.str s] (.tup [i64 (N7 s),.ifc 354 (.ref [])]):=by
 refine om (enters Tryz.func180 rfl (by decide +kernel)) fun aT w F hl hf hr=>?_;rw[Gd hr];obtain⟨t1,v1,qc⟩:=hl.syn 1 (by kernel_rfl);obtain⟨t2,v2,mM⟩:=hl.Zb 2 (by kernel_rfl);rcases hA:Lib.atoiAll s.data.toList with v|_|_
 ·unfold eE at h
  rw[hA]at h;cases h
 ·have Tn:N7 s=0:=by unfold N7;rw[hA]
  rw[Tn];refine(Any.strconv_Atoi_syntax Tryz.zB s (by omega) hA _ w qc (.inr ⟨_,_,rfl⟩)).mono ?_;rintro e w' ⟨N,rfl,hN,SH,hb⟩;exact⟨_,rfl,Grown.of hb,F,fun _ _=>rfl,fun b lO=>hf b (Nat.le_trans hb.size lO),_,rfl,_,_,rfl,rfl,_,_,rfl,⟨_,rfl,_,_,rfl,trivial⟩,rfl⟩
 ·have Tn:N7 s=Lib.atoiSat s.data.toList:=by unfold N7;rw[hA]
  rw[Tn];refine(Any.strconv_Atoi_range Tryz.zB s (by omega) hA _ w mM (.inr ⟨_,_,rfl⟩)).mono ?_;rintro e w' ⟨N,rfl,hN,SH,hb⟩;exact⟨_,rfl,Grown.of hb,F,fun _ _=>rfl,fun b lO=>hf b (Nat.le_trans hb.size lO),_,rfl,_,_,rfl,rfl,_,_,rfl,⟨_,rfl,_,_,rfl,trivial⟩,rfl⟩
theorem Yf(s:ByteArray)(hs:s.size<=1000000000):Jw Tryz.prog 122 [.d (.str s)] [] (fun v h'=>∃ n,eE s=some n/\v = .d (i64 n)/\h' = []) (fun pv h'=>eE s=none/\pv=pF/\h' = []):=by
 intro σ Y st;refine yV mixed av Tryz.func122 rfl (ft:=QS) (args:=[.d (.str s)]) (show oQ QS Tryz.f122 1=true from by decide +kernel) ?_;conv=>whnf
 cases hA:eE s with
 | some n=>
  refine af (XX s n hs hA) rfl rfl ?_;conv=>whnf
  refine fE rfl (fun _=>?_) (fun h=>by cases h);conv=>whnf
  exact aK [] [.d (i64 n)] [] rfl trivial rfl ⟨⟨n,rfl,rfl,rfl⟩,rfl⟩
 | none=>
  refine af (KP s hs hA) rfl rfl ?_;conv=>whnf
  refine fE rfl (fun h=>by cases h) (fun _=>?_);conv=>whnf
  exact aK [] [] [] rfl trivial rfl ⟨⟨rfl,rfl,rfl⟩,rfl⟩
end Go.PX
namespace Go.PX
open Go.Proofs
def spB:ByteArray:=⟨#[32]⟩
def TQ:ByteArray:=⟨#[10]⟩
inductive Wd where
 | s (b:ByteArray)
 | n (k:Int)
def Wd.d:Wd->D
 | .s b=>.ifc 9 (.str b)
 | .n k=>.ifc 3 (i64 k)
def Wd.b:Wd->ByteArray
 | .s b=>b
 | .n k=>tp k
def p7:List Wd->ByteArray
 | []=>.empty
 | w::r=>(spB++w.b)++p7 r
def pP:List Wd->ByteArray
 | []=>.empty
 | w::r=>w.b++p7 r
def n7(l:List Wd):ByteArray:=pP l++TQ
def wy(l:List Wd):D:=.vs (l.map fun w=>[w.d])
def ql:Wd->Prop
 | .s b=>b.size<=1000
 | .n k=>-1000000000000000000<=k/\k<=1000000000000000000
theorem gd(a b c:ByteArray):a++b++c=a++(b++c):=by simp[ByteArray.append_assoc]
theorem cA(a b:ByteArray):(a++b).size=a.size+b.size:=by simp
theorem R6(a:ByteArray):a++ByteArray.empty=a:=by simp
theorem pO{w:Wd}(h:ql w):w.b.size<=1000:=by
 cases w with
 | s b=>exact h
 | n k=>have:=KA k;show(tp k).size<=1000;omega
theorem r8:∀ {l:List Wd},(∀ w∈l,ql w)->(p7 l).size<=1001*l.length
 | [],_=>Nat.zero_le _
 | w::r,h=>by
  have h1:=r8 (l:=r) fun x hx=>h x (List.mem_cons_of_mem _ hx);have h2:=pO (h w (List.mem_cons_self ..));have h3:spB.size=1:=rfl;rw[p7,cA,cA,List.length_cons];omega
theorem FG(b:ByteArray)(h0:0<b.size)(hm:b.size+1<=140737488355328):tH Tryz.prog 174 [.ptr 1000000 0,.d (.int .u8 32)] (lh 1000000 1000001 b) fun v h'=>v = .d .nili/\h'=lh 1000000 2000000 (b++⟨#[32]⟩):=by
 intro σ Y st;refine ez mixed av Tryz.func174 rfl (ft:=IJ) (args:=[.ptr 1000000 0,.d (.int .u8 32)]) (show oQ IJ Tryz.f174 2=true from by decide +kernel) ?_;conv=>whnf
 refine bH (tv b) [1000000,1000001] rfl ⟨_,_,rfl,rfl,_,_,rfl,rfl,rfl⟩ rfl ?_;conv=>whnf
 refine aM (by simp[h0];exact hm) ?_;conv=>whnf
 exact aK [14] [.d .nili] (lh 1000000 2000000 (b++⟨#[32]⟩)) rfl ⟨rfl,rfl,trivial⟩ rfl ⟨⟨rfl,rfl⟩,rfl⟩
theorem Jh(b:ByteArray)(h0:0<b.size)(l:List Wd)(hl:l.length<=10)(hw:∀ w∈l,ql w)(hb:b.size<=1000000000)(er:l ≠ []) :
  tH Tryz.prog 173 [.d (wy l),.ptr 1000000 0] (lh 1000000 1000001 b) fun v h'=>v = .d (.tup [])/\h'=lh 1000000 2000000 (b++n7 l):=by
 intro σ Y st;refine ez mixed av Tryz.func173 rfl (ft:=II) (args:=[.d (wy l),.ptr 1000000 0]) (show oQ II Tryz.f173 2=true from by decide +kernel) ?_;conv=>whnf
 generalize hT:b++pP l=Lp;have hts:Lp.size<=1000020000:=by
  rw[<- hT,cA]
  cases l with
  | nil=>exact absurd rfl er
  | cons w r=>
   have h1:=pO (hw w (List.mem_cons_self ..));have h2:=r8 fun x hx=>hw x (List.mem_cons_of_mem w hx);rw[pP,cA];rw[List.length_cons]at hl;omega
 refine bB (T:=tys) av (by exact aj mixed av (by decide +kernel)) l (fun i (acc:ByteArray)=>⟨[(1,.ptr 1000000 0),(7,.d (wy l)),(8,.d (i64 l.length)),(9,.d (i64 i))],lh 1000000 900000 acc,st⟩) (fun i r acc=>acc++(if i=0 then pP r else p7 r)=Lp/\0<acc.size) b ?_ ⟨hT,h0⟩ ?_ ?_
 ·exact(Wk.move 1000001 900000 rfl rfl).trans aw
 ·rintro i w r acc hx hi hir ⟨dI,ha⟩
  have UB:=hw w (List.mem_of_getElem? hx);have De:=pO UB;have aa8:acc.size<=Lp.size:=by rw[<- dI,cA];omega
  conv=>whnf
  refine ag (fun _=>?_) (fun h=>absurd hi (by simpa using h));conv=>whnf
  refine aG hx ?_;conv=>whnf
  refine ag (fun h1=>?_) (fun h1=>?_)
  ·have h1:0<i:=by have:=of_decide_eq_true h1;omega
   rw[if_neg (by omega),p7]at dI;conv=>whnf
   refine eg.OF ?_;refine bH (FG acc ha (by omega)) [1000000,900000] rfl ⟨_,_,rfl,rfl,_,_,rfl,rfl,rfl⟩ rfl ?_;refine⟨⟨[(1,.ptr 1000000 0),(7,.d (wy l)),(8,.d (i64 l.length)),(9,.d (i64 i)),(3,.d (i64 i)),(4,.d w.d)],lh 1000000 900000 (acc++(⟨#[32]⟩:ByteArray)),st⟩,(Wk.move 101024 900000 rfl rfl).trans aw,?_⟩
   cases w with
   | s x=>
    have De:x.size<=1000:=De;conv=>whnf
    refine bH (B4 (acc++(⟨#[32]⟩:ByteArray)) x (by rw[cA];omega) (by have:(⟨#[32]⟩:ByteArray).size=1:=rfl;rw[cA];omega)) [1000000,900000] rfl ⟨_,_,rfl,rfl,_,_,rfl,rfl,rfl⟩ rfl ?_;conv=>whnf
    refine ao (((i+1:Nat):Int)) (by(try dsimp only);omega) (wrap_i64 (by(try dsimp only);omega)) ?_;conv=>whnf
    exact⟨(acc++(⟨#[32]⟩:ByteArray))++x,⟨by rw[<- dI,if_neg (by omega)];simp only[gd];rfl,by simp only[cA];omega⟩,(Wk.move 101408 900000 rfl rfl).trans aw⟩
   | n k=>
    have De:(tp k).size<=1000:=De;conv=>whnf
    refine af (NN k UB) rfl rfl ?_;conv=>whnf
    refine bH (B4 (acc++(⟨#[32]⟩:ByteArray)) (tp k) (by rw[cA];omega) (by have:(⟨#[32]⟩:ByteArray).size=1:=rfl;rw[cA];omega)) [1000000,900000] rfl ⟨_,_,rfl,rfl,_,_,rfl,rfl,rfl⟩ rfl ?_;conv=>whnf
    refine ao (((i+1:Nat):Int)) (by(try dsimp only);omega) (wrap_i64 (by(try dsimp only);omega)) ?_;conv=>whnf
    exact⟨(acc++(⟨#[32]⟩:ByteArray))++tp k,⟨by rw[<- dI,if_neg (by omega)];simp only[gd];rfl,by simp only[cA];omega⟩,(Wk.move 101792 900000 rfl rfl).trans aw⟩
  ·have h1:i=0:=by have:=of_decide_eq_false h1;omega
   subst h1;rw[if_pos rfl,pP]at dI
   cases w with
   | s x=>
    have De:x.size<=1000:=De;conv=>whnf
    refine bH (B4 acc x ha (by omega)) [1000000,900000] rfl ⟨_,_,rfl,rfl,_,_,rfl,rfl,rfl⟩ rfl ?_;conv=>whnf
    refine ao (((0+1:Nat):Int)) (by(try dsimp only);omega) (wrap_i64 (by(try dsimp only);omega)) ?_;conv=>whnf
    exact⟨acc++x,⟨by rw[<- dI,if_neg (by omega)];simp only[gd];rfl,by simp only[cA];omega⟩,(Wk.move 101408 900000 rfl rfl).trans aw⟩
   | n k=>
    have De:(tp k).size<=1000:=De;conv=>whnf
    refine af (NN k UB) rfl rfl ?_;conv=>whnf
    refine bH (B4 acc (tp k) ha (by omega)) [1000000,900000] rfl ⟨_,_,rfl,rfl,_,_,rfl,rfl,rfl⟩ rfl ?_;conv=>whnf
    refine ao (((0+1:Nat):Int)) (by(try dsimp only);omega) (wrap_i64 (by(try dsimp only);omega)) ?_;conv=>whnf
    exact⟨acc++tp k,⟨by rw[<- dI,if_neg (by omega)];simp only[gd];rfl,by simp only[cA];omega⟩,(Wk.move 101792 900000 rfl rfl).trans aw⟩
 ·rintro acc ⟨dI,ha⟩
  have dI:acc=Lp:=by
   rw[<- dI];split<;>simp[pP,p7]
  subst dI;conv=>whnf
  refine ag (fun h=>absurd h (by simp)) (fun _=>?_);conv=>whnf
  refine bH (RF acc ha (by omega)) [1000000,900000] rfl ⟨_,_,rfl,rfl,_,_,rfl,rfl,rfl⟩ rfl ?_;conv=>whnf
  have he:b++n7 l=acc++TQ:=by rw[n7,<- gd,hT]
  rw[he];exact aK [101920] [] (lh 1000000 2000000 (acc++TQ)) rfl ⟨rfl,rfl,trivial⟩ rfl ⟨⟨rfl,rfl⟩,rfl⟩
def Zq(acc:Option ByteArray):Heap:=match acc with
 | none=>LN 1000000
 | some b=>lh 1000000 900000 b
theorem KN(x:ByteArray)(eY:0<x.size)(l:List Wd)(hl:l.length<=9)(hw:∀ w∈Wd.s x::l,ql w) :
  tH Tryz.prog 173 [.d (wy (.s x::l)),.ptr 1000000 0] (LN 1000000) fun v h'=>v = .d (.tup [])/\h'=lh 1000000 2000000 (n7 (.s x::l)):=by
 intro σ Y st;refine ez mixed av Tryz.func173 rfl (ft:=II) (args:=[.d (wy (.s x::l)),.ptr 1000000 0]) (show oQ II Tryz.f173 2=true from by decide +kernel) ?_;conv=>whnf
 generalize hT:pP (.s x::l)=Lp;generalize hL:Wd.s x::l=L at hw;have hLl:L.length<=10:=by rw[<- hL,List.length_cons];omega
 have Ov:L[0]?=some (.s x):=by rw[<- hL];rfl
 have hts:Lp.size<=1000020000:=by
  rw[<- hT];have h1:=pO (hw (.s x) (by rw[<- hL];simp));have h2:=r8 (l:=l) fun y hy=>hw y (by rw[<- hL];simp[hy]);rw[pP,cA];omega
 have aba:n7 L=Lp++TQ:=by rw[<- hL,n7,hT]
 have Tt:x++p7 (L.drop 1)=Lp:=by rw[<- hL,<- hT];rfl
 rw[aba]
 refine cD (T:=tys) av (by exact aj mixed av (by decide +kernel)) (α:=Nat×Option ByteArray) (fun z=>⟨[(1,.ptr 1000000 0),(7,.d (wy L)),(8,.d (i64 L.length)),(9,.d (i64 z.1))],Zq z.2,st⟩) (fun z=>z.1<=L.length/\match z.2 with
  | none=>z.1=0
  | some acc=>0<z.1/\acc++p7 (L.drop z.1)=Lp/\0<acc.size) (fun z=>L.length-z.1) (0,none) ?_ ⟨Nat.zero_le _,rfl⟩ ?_
 ·exact Wk.sub ⟨rfl,rfl,congrArg (fun z:Nat=>some (V.d (i64 z))) (by simp),rfl,trivial⟩ ⟨rfl,trivial⟩
 rintro ⟨i,o⟩ ⟨hi,dI⟩
 cases o with
 | none=>
  have hi0:i=0:=dI;have hLi:L[i]?=some (.s x):=by rw[hi0];exact Ov
  have D3:=(List.getElem?_eq_some_iff.1 hLi).1;have De:x.size<=1000:=pO (hw (.s x) (List.mem_of_getElem? Ov));have Ps:x++p7 (L.drop (i+1))=Lp:=by rw[hi0];exact Tt
  conv=>whnf
  refine ag (fun _=>?_) (fun h=>absurd D3 (by simpa using h));conv=>whnf
  refine aG hLi ?_;conv=>whnf
  refine ag (fun h=>absurd h (by simp;omega)) (fun _=>?_);conv=>whnf
  refine bH (KO x eY (by omega)) [1000000] rfl ⟨_,_,rfl,rfl,rfl⟩ rfl ?_;conv=>whnf
  refine ao (((i+1:Nat):Int)) (by(try dsimp only);omega) (wrap_i64 (by(try dsimp only);omega)) ?_;conv=>whnf
  exact⟨(i+1,some x),by simp only;omega,⟨by simp only;omega,Nat.succ_pos i,Ps,eY⟩,(Wk.move 101408 900000 rfl rfl).trans aw⟩
 | some acc=>
  obtain⟨h0,dI,ha⟩:=dI;simp only at h0 dI ha hi;have aa8:acc.size<=Lp.size:=by rw[<- dI,cA];omega
  conv=>whnf
  refine ag (fun h1=>?_) (fun h1=>?_)
  ·have h1:i<L.length:=by have:=of_decide_eq_true h1;omega
   obtain⟨w,hx⟩:∃ w,L[i]?=some w:=⟨_,List.getElem?_eq_getElem h1⟩;have Lf:L.drop i=w::L.drop (i+1):=by
    rw[List.drop_eq_getElem_cons h1];rw[List.getElem?_eq_getElem h1]at hx;rw[Option.some.inj hx]
   rw[Lf,p7]at dI;have UB:=hw w (List.mem_of_getElem? hx);have De:=pO UB;conv=>whnf
   refine aG hx ?_;conv=>whnf
   refine ag (fun _=>?_) (fun h=>absurd h (by simp;omega));conv=>whnf
   refine eg.OF ?_;refine bH (FG acc ha (by omega)) [1000000,900000] rfl ⟨_,_,rfl,rfl,_,_,rfl,rfl,rfl⟩ rfl ?_;refine⟨⟨[(1,.ptr 1000000 0),(7,.d (wy L)),(8,.d (i64 L.length)),(9,.d (i64 i)),(3,.d (i64 i)),(4,.d w.d)],lh 1000000 900000 (acc++(⟨#[32]⟩:ByteArray)),st⟩,(Wk.move 101024 900000 rfl rfl).trans aw,?_⟩
   cases w with
   | s y=>
    have De:y.size<=1000:=De;conv=>whnf
    refine bH (B4 (acc++(⟨#[32]⟩:ByteArray)) y (by rw[cA];omega) (by have:(⟨#[32]⟩:ByteArray).size=1:=rfl;rw[cA];omega)) [1000000,900000] rfl ⟨_,_,rfl,rfl,_,_,rfl,rfl,rfl⟩ rfl ?_;conv=>whnf
    refine ao (((i+1:Nat):Int)) (by(try dsimp only);omega) (wrap_i64 (by(try dsimp only);omega)) ?_;conv=>whnf
    exact⟨(i+1,some ((acc++(⟨#[32]⟩:ByteArray))++y)),by simp only;omega,⟨by simp only;omega,by simp only;omega,by rw[<- dI];simp only[gd];rfl,by simp only[cA];omega⟩,(Wk.move 101408 900000 rfl rfl).trans aw⟩
   | n k=>
    have De:(tp k).size<=1000:=De;conv=>whnf
    refine af (NN k UB) rfl rfl ?_;conv=>whnf
    refine bH (B4 (acc++(⟨#[32]⟩:ByteArray)) (tp k) (by rw[cA];omega) (by have:(⟨#[32]⟩:ByteArray).size=1:=rfl;rw[cA];omega)) [1000000,900000] rfl ⟨_,_,rfl,rfl,_,_,rfl,rfl,rfl⟩ rfl ?_;conv=>whnf
    refine ao (((i+1:Nat):Int)) (by(try dsimp only);omega) (wrap_i64 (by(try dsimp only);omega)) ?_;conv=>whnf
    exact⟨(i+1,some ((acc++(⟨#[32]⟩:ByteArray))++tp k)),by simp only;omega,⟨by simp only;omega,by simp only;omega,by rw[<- dI];simp only[gd];rfl,by simp only[cA];omega⟩,(Wk.move 101792 900000 rfl rfl).trans aw⟩
  ·have h1:¬ i<L.length:=by have:=of_decide_eq_false h1;omega
   rw[List.drop_eq_nil_of_le (by omega)]at dI;have dI:acc=Lp:=by rw[<- dI];simp[p7]
   subst dI;conv=>whnf
   refine bH (RF acc ha (by omega)) [1000000,900000] rfl ⟨_,_,rfl,rfl,_,_,rfl,rfl,rfl⟩ rfl ?_;conv=>whnf
   exact aK [101920] [] (lh 1000000 2000000 (acc++TQ)) rfl ⟨rfl,rfl,trivial⟩ rfl ⟨⟨rfl,rfl⟩,rfl⟩
def aH(l:List cv):List (List D):=l.map RO
def cN(l:List (List cz)):List (List D):=l.map fun r=>[.vs (r.map cz.cells)]
def lkH(l:aN)(wider:Int)(K:Nat)(steps:List cv)(pers:List (List cz))(many:Int):Heap:=
 [(1000000,.box (.vv [.ptr 1000002 0])),(1000001,.box (.dd [i64 wider])),(1000002,.box (.vv [.d (i64 l.near),.d (bF l.an),.sl K 5 0 steps.length,.sl 1000004 1 0 pers.length,.d (i64 many)])),(K,.arr 5 (.dd (aH steps))),(1000004,.arr 1 (.dd (cN pers)))]
theorem B3(l:aN)(wider:Int)(hw:0<=wider/\wider<=1048576)(steps:List cv)(hs:steps.length<=1000)(pers:List (List cz))(many:Int)(hm:0<=many/\many<=1000)(p:cz)(s:Span)(BM : -720<=s.lo/\s.lo<=s.hi/\s.hi<=720) :
  tH Tryz.prog 168 [.d p.d,.d s.d,.ptr 1000000 0,.ptr 1000001 0] (lkH l wider 1000003 steps pers many) fun v h'=>v = .d (.tup [])/\h'=lkH l wider 2000000 (steps++ek wider p s) pers (many+1):=by
 intro σ Y st;refine ez mixed av Tryz.func168 rfl (ft:=QX) (args:=[.d p.d,.d s.d,.ptr 1000000 0,.ptr 1000001 0]) (show oQ QX Tryz.f168 4=true from by decide +kernel) ?_;conv=>whnf
 refine ae ?_;conv=>whnf
 refine ax (ds:=[]) Dx rfl rfl ?_;conv=>whnf
 refine ae ?_;conv=>whnf
 refine ax (ds:=[]) Dx rfl rfl ?_;conv=>whnf
 refine ae ?_;conv=>whnf
 refine ak rfl ?_;conv=>whnf
 refine ak (by simp[bx.len,aH]) ?_;conv=>whnf
 refine aM (decide_eq_true (by
  show((aH steps).length+2)*40<=140737488355328;simp[aH];omega)) ?_
 conv=>whnf
 have e1:aH (steps++ek wider p s)=aH steps ++ [[i64 (-1),i64 0,i64 p.book,i64 p.n,i64 (s.hi+wider)],[i64 p.book,i64 p.n,i64 (-1),i64 0,i64 (wider-s.lo)]]:=by
  unfold aH;rw[List.map_append];rfl
 have e2:(steps++ek wider p s).length=(aH steps).length+2:=by simp[aH,ek]
 refine aK [33] [] [(1000000,.box (.vv [.ptr 1000002 0])),(1000001,.box (.dd [i64 wider])),(1000002,.box (.vv [.d (i64 l.near),.d (bF l.an),.sl 2000000 5 0 ((aH steps).length+2),.sl 1000004 1 0 pers.length,.d (i64 (many+1))])),(2000000,.arr 5 (.dd (aH steps ++ [[i64 (-1),i64 0,i64 p.book,i64 p.n,i64 (s.hi+wider)],[i64 p.book,i64 p.n,i64 (-1),i64 0,i64 (wider-s.lo)]]))),(1000004,.arr 1 (.dd (cN pers)))] rfl ⟨bS rfl ⟨⟨rfl,rfl⟩,trivial⟩,rfl,bS rfl ⟨rfl,rfl,⟨rfl,rfl,rfl,rfl⟩,⟨rfl,rfl,rfl,rfl⟩,rfl,trivial⟩,rfl,rfl,trivial⟩ rfl ⟨⟨rfl,?_⟩,rfl⟩;unfold lkH;rw[e1,e2]
theorem Wk.tT{σ:Type}{e:Env}{h:Heap}{s:σ}(b k sz:Nat)(A B:List D){l:List D}(hk:Nat.blt k 1000000=true)(hs:Nat.blt 0 sz=true)(hb:get h b=some (.box (.dd l)))(hl:l=A ++ .nils::B)(iU:Nat.beq b k=false) :
  Wk (⟨e,h,s⟩:St σ) ⟨dv (aJ (bp k)) e,put (((k,.arr sz (.dd []))::dv (Obj.aJ (bp k)) (cut h k))) b (.box (.vv (inj A ++ .sl k sz 0 0::inj B))),s⟩:=by
 have hk:=Nat.le_of_ble_eq_true hk;have hs:=Nat.le_of_ble_eq_true hs;have er:b≠k:=by rintro rfl;simp at iU
 have h1:Wk (⟨e,h,s⟩:St σ) ⟨dv (aJ (bp k)) e,((k,.arr sz (.dd []))::dv (Obj.aJ (bp k)) (cut h k)),s⟩:=by
  intro cx r m L F a w hg;exact⟨_,F,hg.jU k sz (by unfold pinned;omega) hs (.dd []) rfl,Tr.refl F w⟩
 refine h1.trans (Wk.B9 b (o:=.box (.dd l)) _ (by rw[fW,if_neg er,bY,e5,if_neg er,hb];rfl) (fun yv L F w h=>?_) fun L hb=>hb);obtain⟨c,T,hc,hr⟩:=h;have hr:aq yv L F w (inj l) c.toList:=hr;rw[hl,ji]at hr;exact⟨c,T,hc,aq.zP k sz hs hr⟩
end Go.PX
