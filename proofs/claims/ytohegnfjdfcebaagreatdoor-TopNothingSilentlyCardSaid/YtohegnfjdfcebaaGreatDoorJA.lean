/-
  What is proved here serves the law's text: each part says its own claim and its conditions. No condition is left open.
-/
import Derived.Shelf.SlGeneric
import Derived.Shelf.SlSortCmp.NoneTotal
import Derived.Shelf.SlicesG.Cmp
import Derived.Shelf.Strings.OnBuilder
import Derived.Shelf.Strings.Builder1
import Derived.Shelf.Small.Strs
import Derived.Shelf.Strconv.Itoa3
import Derived.Shelf.LaysM
import Derived.Shelf.Strings.Prefix
import Derived.Shelf.Strings.Split
import Derived.Shelf.Strings.Repeat
import Derived.Ground.SlsfProg
import Derived.Ground.SlgcProg
import Derived.Test.YtohegnfjdfcebaaGreatDoorChecked
import Derived.Lib.SplitLaws
import Derived.Test.YtohegnfjdfcebaaGreatDoorKX
import Derived.Test.YtohegnfjdfcebaaGreatDoorKT
set_option maxHeartbeats 32000000
set_option maxRecDepth 100000
set_option linter.unusedSimpArgs false
set_option linter.unusedVariables false

namespace Go.Proofs
open Go.Shelf
def Tryz.laysSortF_ren:Go.Shelf.Ren:=⟨fun|6=>107|15=>126|14=>125|28=>141|29=>142|20=>133|21=>134|22=>135|23=>136|24=>137|25=>138|26=>139|27=>140|46=>148|47=>149|48=>150|49=>151|50=>152|57=>157|n=>n,fun|22=>43|24=>47|25=>209|3=>3|39=>215|0=>0|53=>225|55=>237|4=>4|46=>230|45=>229|50=>142|5=>5|9=>9|66=>243|70=>247|76=>252|77=>253|n=>n,fun|n=>n⟩
theorem Tryz.laysSortF:Go.Proofs.SlLaysF0.n6 Tryz.prog Tryz.laysSortF_ren:={
 mixed:=by kernel_rfl
 f6:=⟨Tryz.f107.name,by decide,Tryz.func107.trans (congrArg some (by kernel_rfl))⟩
 f14:=⟨Tryz.f125.name,by decide,Tryz.func125.trans (congrArg some (by kernel_rfl))⟩
 f15:=Tryz.func126.trans (congrArg some (by kernel_rfl))
 f20:=⟨Tryz.f133.name,by decide,Tryz.func133.trans (congrArg some (by kernel_rfl))⟩
 f21:=⟨Tryz.f134.name,by decide,Tryz.func134.trans (congrArg some (by kernel_rfl))⟩
 f22:=⟨Tryz.f135.name,by decide,Tryz.func135.trans (congrArg some (by kernel_rfl))⟩
 f23:=⟨Tryz.f136.name,by decide,Tryz.func136.trans (congrArg some (by kernel_rfl))⟩
 f24:=⟨Tryz.f137.name,by decide,Tryz.func137.trans (congrArg some (by kernel_rfl))⟩
 f25:=⟨Tryz.f138.name,by decide,Tryz.func138.trans (congrArg some (by kernel_rfl))⟩
 f26:=⟨Tryz.f139.name,by decide,Tryz.func139.trans (congrArg some (by kernel_rfl))⟩
 f27:=⟨Tryz.f140.name,by decide,Tryz.func140.trans (congrArg some (by kernel_rfl))⟩
 f28:=Tryz.func141.trans (congrArg some (by kernel_rfl))
 f29:=Tryz.func142.trans (congrArg some (by kernel_rfl))
 f46:=⟨Tryz.f148.name,by decide,Tryz.func148.trans (congrArg some (by kernel_rfl))⟩
 f47:=Tryz.func149.trans (congrArg some (by kernel_rfl))
 f48:=Tryz.func150.trans (congrArg some (by kernel_rfl))
 f49:=⟨Tryz.f151.name,by decide,Tryz.func151.trans (congrArg some (by kernel_rfl))⟩
 f50:=⟨Tryz.f152.name,by decide,Tryz.func152.trans (congrArg some (by kernel_rfl))⟩
 f57:=⟨Tryz.f157.name,by decide,Tryz.func157.trans (congrArg some (by kernel_rfl))⟩
 t0:=Tryz.underlying0
 a0:=Tryz.isAgg0
 z0:=Tryz.sizeOf0
 v0:=Tryz.zeroValue0
 t3:=Tryz.underlying3
 a3:=Tryz.isAgg3
 z3:=Tryz.sizeOf3
 v3:=Tryz.zeroValue3
 t4:=Tryz.underlying4
 a4:=Tryz.isAgg4
 z4:=Tryz.sizeOf4
 v4:=Tryz.zeroValue4
 t5:=Tryz.underlying5
 a5:=Tryz.isAgg5
 z5:=Tryz.sizeOf5
 v5:=Tryz.zeroValue5
 t9:=Tryz.underlying9
 a9:=Tryz.isAgg9
 z9:=Tryz.sizeOf9
 v9:=Tryz.zeroValue9
 t22:=Tryz.underlying43
 a22:=Tryz.isAgg43
 z22:=Tryz.sizeOf43
 v22:=Tryz.zeroValue43
 t25:=Tryz.underlying209
 a25:=Tryz.isAgg209
 z25:=Tryz.sizeOf209
 v25:=Tryz.zeroValue209
 t39:=Tryz.underlying215
 a39:=Tryz.isAgg215
 z39:=Tryz.sizeOf215
 v39:=Tryz.zeroValue215
 t45:=Tryz.underlying229
 a45:=Tryz.isAgg229
 z45:=Tryz.sizeOf229
 v45:=Tryz.zeroValue229
 t46:=Tryz.underlying230
 a46:=Tryz.isAgg230
 z46:=Tryz.sizeOf230
 v46:=Tryz.zeroValue230
 t50:=Tryz.underlying142
 a50:=Tryz.isAgg142
 z50:=Tryz.sizeOf142
 v50:=Tryz.zeroValue142
 t53:=Tryz.underlying225
 a53:=Tryz.isAgg225
 z53:=Tryz.sizeOf225
 v53:=Tryz.zeroValue225
 t55:=Tryz.underlying237
 a55:=Tryz.isAgg237
 z55:=Tryz.sizeOf237
 v55:=Tryz.zeroValue237
 t66:=Tryz.underlying243
 a66:=Tryz.isAgg243
 z66:=Tryz.sizeOf243
 v66:=Tryz.zeroValue243
 t70:=Tryz.underlying247
 a70:=Tryz.isAgg247
 z70:=Tryz.sizeOf247
 v70:=Tryz.zeroValue247
 t76:=Tryz.underlying252
 a76:=Tryz.isAgg252
 z76:=Tryz.sizeOf252
 v76:=Tryz.zeroValue252
 t77:=Tryz.underlying253
 a77:=Tryz.isAgg253
 z77:=Tryz.sizeOf253
 v77:=Tryz.zeroValue253 }
def Tryz.laysCmp_ren:Go.Shelf.Ren:=⟨fun|5=>109|7=>127|n=>n,fun|22=>3|3=>3|4=>4|n=>n,fun|n=>n⟩
theorem Tryz.laysCmp:Go.Proofs.SlLaysC2.n5 Tryz.prog Tryz.laysCmp_ren:={
 mixed:=by kernel_rfl
 f5:=⟨Tryz.f109.name,by decide,Tryz.func109.trans (congrArg some (by kernel_rfl))⟩
 f7:=⟨Tryz.f127.name,by decide,Tryz.func127.trans (congrArg some (by kernel_rfl))⟩
 t3:=Tryz.underlying3
 a3:=Tryz.isAgg3
 z3:=Tryz.sizeOf3
 v3:=Tryz.zeroValue3
 t4:=Tryz.underlying4
 a4:=Tryz.isAgg4
 z4:=Tryz.sizeOf4
 v4:=Tryz.zeroValue4
 t22:=Tryz.underlying3
 a22:=Tryz.isAgg3
 z22:=Tryz.sizeOf3
 v22:=Tryz.zeroValue3 }
def Tryz.lays156_ren:Go.Shelf.Ren:=⟨fun|156=>85|165=>113|166=>45|169=>47|240=>84|241=>129|276=>112|277=>147|n=>n,fun|31=>52|9=>9|3=>3|4=>4|0=>0|20=>20|72=>118|76=>121|70=>115|37=>116|75=>120|127=>182|164=>211|5=>5|80=>61|n=>n,fun|n=>n⟩
theorem Tryz.lays156:Go.Proofs.Lays.n156 Tryz.prog Tryz.lays156_ren:={
 mixed:=by kernel_rfl
 f156:=Tryz.func85.trans (congrArg some (by kernel_rfl))
 f165:=Tryz.func113.trans (congrArg some (by kernel_rfl))
 f166:=Tryz.func45.trans (congrArg some (by kernel_rfl))
 f169:=Tryz.func47.trans (congrArg some (by kernel_rfl))
 f240:=Tryz.func84.trans (congrArg some (by kernel_rfl))
 f241:=Tryz.func129.trans (congrArg some (by kernel_rfl))
 f276:=Tryz.func112.trans (congrArg some (by kernel_rfl))
 f277:=Tryz.func147.trans (congrArg some (by kernel_rfl))
 t0:=Tryz.underlying0
 a0:=Tryz.isAgg0
 z0:=Tryz.sizeOf0
 v0:=Tryz.zeroValue0
 t3:=Tryz.underlying3
 a3:=Tryz.isAgg3
 z3:=Tryz.sizeOf3
 v3:=Tryz.zeroValue3
 t4:=Tryz.underlying4
 a4:=Tryz.isAgg4
 z4:=Tryz.sizeOf4
 v4:=Tryz.zeroValue4
 t9:=Tryz.underlying9
 a9:=Tryz.isAgg9
 z9:=Tryz.sizeOf9
 v9:=Tryz.zeroValue9
 t20:=Tryz.underlying20
 a20:=Tryz.isAgg20
 z20:=Tryz.sizeOf20
 v20:=Tryz.zeroValue20
 t31:=Tryz.underlying52
 a31:=Tryz.isAgg52
 z31:=Tryz.sizeOf52
 v31:=Tryz.zeroValue52
 t37:=Tryz.underlying116
 a37:=Tryz.isAgg116
 z37:=Tryz.sizeOf116
 v37:=Tryz.zeroValue116
 t70:=Tryz.underlying115
 a70:=Tryz.isAgg115
 z70:=Tryz.sizeOf115
 v70:=Tryz.zeroValue115
 t72:=Tryz.underlying118
 a72:=Tryz.isAgg118
 z72:=Tryz.sizeOf118
 v72:=Tryz.zeroValue118
 t75:=Tryz.underlying120
 a75:=Tryz.isAgg120
 z75:=Tryz.sizeOf120
 v75:=Tryz.zeroValue120
 t76:=Tryz.underlying121
 a76:=Tryz.isAgg121
 z76:=Tryz.sizeOf121
 v76:=Tryz.zeroValue121
 t127:=Tryz.underlying182
 a127:=Tryz.isAgg182
 z127:=Tryz.sizeOf182
 v127:=Tryz.zeroValue182
 t164:=Tryz.underlying211
 a164:=Tryz.isAgg211
 z164:=Tryz.sizeOf211
 v164:=Tryz.zeroValue211 }
def Tryz.laysM171_ren:Go.Shelf.Ren:=⟨fun|171=>83|243=>111|246=>128|283=>143|284=>144|285=>145|286=>146|129=>142|317=>153|318=>154|319=>155|320=>156|337=>158|338=>159|n=>n,fun|3=>3|9=>9|2=>2|4=>4|171=>238|0=>0|53=>237|37=>116|5=>5|173=>240|212=>250|51=>225|20=>20|213=>251|46=>215|232=>255|233=>256|n=>n,fun|17=>5|18=>6|19=>7|n=>n⟩
theorem Tryz.laysM171:Go.Proofs.LaysM.n171 Tryz.prog Tryz.laysM171_ren:={
 mixed:=by kernel_rfl
 f129:=Tryz.func142.trans (congrArg some (by kernel_rfl))
 f171:=Tryz.func83.trans (congrArg some (by kernel_rfl))
 f243:=Tryz.func111.trans (congrArg some (by kernel_rfl))
 f246:=Tryz.func128.trans (congrArg some (by kernel_rfl))
 f283:=Tryz.func143.trans (congrArg some (by kernel_rfl))
 f284:=Tryz.func144.trans (congrArg some (by kernel_rfl))
 f285:=Tryz.func145.trans (congrArg some (by kernel_rfl))
 f286:=Tryz.func146.trans (congrArg some (by kernel_rfl))
 f317:=Tryz.func153.trans (congrArg some (by kernel_rfl))
 f318:=Tryz.func154.trans (congrArg some (by kernel_rfl))
 f319:=Tryz.func155.trans (congrArg some (by kernel_rfl))
 f320:=Tryz.func156.trans (congrArg some (by kernel_rfl))
 f337:=Tryz.func158.trans (congrArg some (by kernel_rfl))
 f338:=Tryz.func159.trans (congrArg some (by kernel_rfl))
 t0:=Tryz.underlying0
 a0:=Tryz.isAgg0
 z0:=Tryz.sizeOf0
 v0:=Tryz.zeroValue0
 t2:=Tryz.underlying2
 a2:=Tryz.isAgg2
 z2:=Tryz.sizeOf2
 v2:=Tryz.zeroValue2
 t3:=Tryz.underlying3
 a3:=Tryz.isAgg3
 z3:=Tryz.sizeOf3
 v3:=Tryz.zeroValue3
 t4:=Tryz.underlying4
 a4:=Tryz.isAgg4
 z4:=Tryz.sizeOf4
 v4:=Tryz.zeroValue4
 t5:=Tryz.underlying5
 a5:=Tryz.isAgg5
 z5:=Tryz.sizeOf5
 v5:=Tryz.zeroValue5
 t9:=Tryz.underlying9
 a9:=Tryz.isAgg9
 z9:=Tryz.sizeOf9
 v9:=Tryz.zeroValue9
 t20:=Tryz.underlying20
 a20:=Tryz.isAgg20
 z20:=Tryz.sizeOf20
 v20:=Tryz.zeroValue20
 t37:=Tryz.underlying116
 a37:=Tryz.isAgg116
 z37:=Tryz.sizeOf116
 v37:=Tryz.zeroValue116
 t46:=Tryz.underlying215
 a46:=Tryz.isAgg215
 z46:=Tryz.sizeOf215
 v46:=Tryz.zeroValue215
 t51:=Tryz.underlying225
 a51:=Tryz.isAgg225
 z51:=Tryz.sizeOf225
 v51:=Tryz.zeroValue225
 t53:=Tryz.underlying237
 a53:=Tryz.isAgg237
 z53:=Tryz.sizeOf237
 v53:=Tryz.zeroValue237
 t171:=Tryz.underlying238
 a171:=Tryz.isAgg238
 z171:=Tryz.sizeOf238
 v171:=Tryz.zeroValue238
 t173:=Tryz.underlying240
 a173:=Tryz.isAgg240
 z173:=Tryz.sizeOf240
 v173:=Tryz.zeroValue240
 t212:=Tryz.underlying250
 a212:=Tryz.isAgg250
 z212:=Tryz.sizeOf250
 v212:=Tryz.zeroValue250
 t213:=Tryz.underlying251
 a213:=Tryz.isAgg251
 z213:=Tryz.sizeOf251
 t232:=Tryz.underlying255
 a232:=Tryz.isAgg255
 z232:=Tryz.sizeOf255
 v232:=Tryz.zeroValue255
 t233:=Tryz.underlying256
 a233:=Tryz.isAgg256
 z233:=Tryz.sizeOf256
 v233:=Tryz.zeroValue256
 g17:=by kernel_rfl
 g18:=by kernel_rfl
 g19:=by kernel_rfl
 i0:=by kernel_rfl
 i2:=by kernel_rfl
 i3:=by kernel_rfl
 i4:=by kernel_rfl
 i5:=by kernel_rfl
 i9:=by kernel_rfl
 i20:=by kernel_rfl
 i37:=by kernel_rfl
 i46:=by kernel_rfl
 i51:=by kernel_rfl
 i53:=by kernel_rfl
 i171:=by kernel_rfl
 i173:=by kernel_rfl
 i212:=by kernel_rfl
 i232:=by kernel_rfl
 i233:=by kernel_rfl
 m17:=by kernel_rfl
 m18:=by kernel_rfl
 m19:=by kernel_rfl }
def Tryz.lays137_ren:Go.Shelf.Ren:=⟨fun|137=>120|217=>115|266=>130|n=>n,fun|9=>9|5=>5|3=>3|n=>n,fun|n=>n⟩
theorem Tryz.lays137:Go.Proofs.Lays.n137 Tryz.prog Tryz.lays137_ren:={
 mixed:=by kernel_rfl
 f137:=Tryz.func120.trans (congrArg some (by kernel_rfl))
 f217:=Tryz.func115.trans (congrArg some (by kernel_rfl))
 f266:=Tryz.func130.trans (congrArg some (by kernel_rfl))
 t3:=Tryz.underlying3
 a3:=Tryz.isAgg3
 z3:=Tryz.sizeOf3
 v3:=Tryz.zeroValue3
 t5:=Tryz.underlying5
 a5:=Tryz.isAgg5
 z5:=Tryz.sizeOf5
 v5:=Tryz.zeroValue5
 t9:=Tryz.underlying9
 a9:=Tryz.isAgg9
 z9:=Tryz.sizeOf9
 v9:=Tryz.zeroValue9 }
def Tryz.lays143_ren:Go.Shelf.Ren:=⟨fun|143=>51|219=>89|217=>115|225=>116|224=>117|267=>118|266=>130|314=>131|n=>n,fun|9=>9|3=>3|4=>4|5=>5|46=>215|146=>226|51=>225|n=>n,fun|1=>2|n=>n⟩
theorem Tryz.lays143:Go.Proofs.Lays.n143 Tryz.prog Tryz.lays143_ren:={
 mixed:=by kernel_rfl
 f143:=Tryz.func51.trans (congrArg some (by kernel_rfl))
 f217:=Tryz.func115.trans (congrArg some (by kernel_rfl))
 f219:=Tryz.func89.trans (congrArg some (by kernel_rfl))
 f224:=Tryz.func117.trans (congrArg some (by kernel_rfl))
 f225:=Tryz.func116.trans (congrArg some (by kernel_rfl))
 f266:=Tryz.func130.trans (congrArg some (by kernel_rfl))
 f267:=Tryz.func118.trans (congrArg some (by kernel_rfl))
 f314:=Tryz.func131.trans (congrArg some (by kernel_rfl))
 t3:=Tryz.underlying3
 a3:=Tryz.isAgg3
 z3:=Tryz.sizeOf3
 v3:=Tryz.zeroValue3
 t4:=Tryz.underlying4
 a4:=Tryz.isAgg4
 z4:=Tryz.sizeOf4
 v4:=Tryz.zeroValue4
 t5:=Tryz.underlying5
 a5:=Tryz.isAgg5
 z5:=Tryz.sizeOf5
 v5:=Tryz.zeroValue5
 t9:=Tryz.underlying9
 a9:=Tryz.isAgg9
 z9:=Tryz.sizeOf9
 v9:=Tryz.zeroValue9
 t46:=Tryz.underlying215
 a46:=Tryz.isAgg215
 z46:=Tryz.sizeOf215
 v46:=Tryz.zeroValue215
 t51:=Tryz.underlying225
 a51:=Tryz.isAgg225
 z51:=Tryz.sizeOf225
 v51:=Tryz.zeroValue225
 t146:=Tryz.underlying226
 a146:=Tryz.isAgg226
 z146:=Tryz.sizeOf226
 v146:=Tryz.zeroValue226
 g1:=by kernel_rfl }
def Tryz.lays138_ren:Go.Shelf.Ren:=⟨fun|138=>50|195=>86|218=>88|143=>51|219=>89|217=>115|225=>116|224=>117|267=>118|266=>130|314=>131|n=>n,fun|9=>9|3=>3|4=>4|5=>5|0=>0|46=>215|146=>226|51=>225|n=>n,fun|1=>2|n=>n⟩
theorem Tryz.lays138:Go.Proofs.Lays.n138 Tryz.prog Tryz.lays138_ren:={
 mixed:=by kernel_rfl
 f138:=Tryz.func50.trans (congrArg some (by kernel_rfl))
 f143:=Tryz.func51.trans (congrArg some (by kernel_rfl))
 f195:=Tryz.func86.trans (congrArg some (by kernel_rfl))
 f217:=Tryz.func115.trans (congrArg some (by kernel_rfl))
 f218:=Tryz.func88.trans (congrArg some (by kernel_rfl))
 f219:=Tryz.func89.trans (congrArg some (by kernel_rfl))
 f224:=Tryz.func117.trans (congrArg some (by kernel_rfl))
 f225:=Tryz.func116.trans (congrArg some (by kernel_rfl))
 f266:=Tryz.func130.trans (congrArg some (by kernel_rfl))
 f267:=Tryz.func118.trans (congrArg some (by kernel_rfl))
 f314:=Tryz.func131.trans (congrArg some (by kernel_rfl))
 t0:=Tryz.underlying0
 a0:=Tryz.isAgg0
 z0:=Tryz.sizeOf0
 v0:=Tryz.zeroValue0
 t3:=Tryz.underlying3
 a3:=Tryz.isAgg3
 z3:=Tryz.sizeOf3
 v3:=Tryz.zeroValue3
 t4:=Tryz.underlying4
 a4:=Tryz.isAgg4
 z4:=Tryz.sizeOf4
 v4:=Tryz.zeroValue4
 t5:=Tryz.underlying5
 a5:=Tryz.isAgg5
 z5:=Tryz.sizeOf5
 v5:=Tryz.zeroValue5
 t9:=Tryz.underlying9
 a9:=Tryz.isAgg9
 z9:=Tryz.sizeOf9
 v9:=Tryz.zeroValue9
 t46:=Tryz.underlying215
 a46:=Tryz.isAgg215
 z46:=Tryz.sizeOf215
 v46:=Tryz.zeroValue215
 t51:=Tryz.underlying225
 a51:=Tryz.isAgg225
 z51:=Tryz.sizeOf225
 v51:=Tryz.zeroValue225
 t146:=Tryz.underlying226
 a146:=Tryz.isAgg226
 z146:=Tryz.sizeOf226
 v146:=Tryz.zeroValue226
 g1:=by kernel_rfl }
def Tryz.lays99_ren:Go.Shelf.Ren:=⟨fun|99=>121|206=>90|n=>n,fun|9=>9|4=>4|3=>3|n=>n,fun|n=>n⟩
theorem Tryz.lays99:Go.Proofs.Lays.n99 Tryz.prog Tryz.lays99_ren:={
 mixed:=by kernel_rfl
 f99:=Tryz.func121.trans (congrArg some (by kernel_rfl))
 f206:=Tryz.func90.trans (congrArg some (by kernel_rfl))
 t3:=Tryz.underlying3
 a3:=Tryz.isAgg3
 z3:=Tryz.sizeOf3
 v3:=Tryz.zeroValue3
 t4:=Tryz.underlying4
 a4:=Tryz.isAgg4
 z4:=Tryz.sizeOf4
 v4:=Tryz.zeroValue4
 t9:=Tryz.underlying9
 a9:=Tryz.isAgg9
 z9:=Tryz.sizeOf9
 v9:=Tryz.zeroValue9 }
def Tryz.lays221_ren:Go.Shelf.Ren:=⟨fun|221=>21|268=>49|138=>50|143=>51|195=>86|197=>87|218=>88|219=>89|260=>114|217=>115|225=>116|224=>117|267=>118|266=>130|314=>131|n=>n,fun|9=>9|3=>3|31=>52|4=>4|0=>0|105=>184|21=>21|5=>5|46=>215|119=>221|139=>224|138=>223|146=>226|51=>225|n=>n,fun|1=>2|3=>3|4=>4|n=>n⟩
theorem Tryz.lays221:Go.Proofs.Lays.n221 Tryz.prog Tryz.lays221_ren:={
 mixed:=by kernel_rfl
 f138:=Tryz.func50.trans (congrArg some (by kernel_rfl))
 f143:=Tryz.func51.trans (congrArg some (by kernel_rfl))
 f195:=Tryz.func86.trans (congrArg some (by kernel_rfl))
 f197:=Tryz.func87.trans (congrArg some (by kernel_rfl))
 f217:=Tryz.func115.trans (congrArg some (by kernel_rfl))
 f218:=Tryz.func88.trans (congrArg some (by kernel_rfl))
 f219:=Tryz.func89.trans (congrArg some (by kernel_rfl))
 f221:=Tryz.func21.trans (congrArg some (by kernel_rfl))
 f224:=Tryz.func117.trans (congrArg some (by kernel_rfl))
 f225:=Tryz.func116.trans (congrArg some (by kernel_rfl))
 f260:=Tryz.func114.trans (congrArg some (by kernel_rfl))
 f266:=Tryz.func130.trans (congrArg some (by kernel_rfl))
 f267:=Tryz.func118.trans (congrArg some (by kernel_rfl))
 f268:=Tryz.func49.trans (congrArg some (by kernel_rfl))
 f314:=Tryz.func131.trans (congrArg some (by kernel_rfl))
 t0:=Tryz.underlying0
 a0:=Tryz.isAgg0
 z0:=Tryz.sizeOf0
 v0:=Tryz.zeroValue0
 t3:=Tryz.underlying3
 a3:=Tryz.isAgg3
 z3:=Tryz.sizeOf3
 v3:=Tryz.zeroValue3
 t4:=Tryz.underlying4
 a4:=Tryz.isAgg4
 z4:=Tryz.sizeOf4
 v4:=Tryz.zeroValue4
 t5:=Tryz.underlying5
 a5:=Tryz.isAgg5
 z5:=Tryz.sizeOf5
 v5:=Tryz.zeroValue5
 t9:=Tryz.underlying9
 a9:=Tryz.isAgg9
 z9:=Tryz.sizeOf9
 v9:=Tryz.zeroValue9
 t21:=Tryz.underlying21
 a21:=Tryz.isAgg21
 z21:=Tryz.sizeOf21
 v21:=Tryz.zeroValue21
 t31:=Tryz.underlying52
 a31:=Tryz.isAgg52
 z31:=Tryz.sizeOf52
 v31:=Tryz.zeroValue52
 t46:=Tryz.underlying215
 a46:=Tryz.isAgg215
 z46:=Tryz.sizeOf215
 v46:=Tryz.zeroValue215
 t51:=Tryz.underlying225
 a51:=Tryz.isAgg225
 z51:=Tryz.sizeOf225
 v51:=Tryz.zeroValue225
 t105:=Tryz.underlying184
 a105:=Tryz.isAgg184
 z105:=Tryz.sizeOf184
 v105:=Tryz.zeroValue184
 t119:=Tryz.underlying221
 a119:=Tryz.isAgg221
 z119:=Tryz.sizeOf221
 t138:=Tryz.underlying223
 a138:=Tryz.isAgg223
 z138:=Tryz.sizeOf223
 v138:=Tryz.zeroValue223
 t139:=Tryz.underlying224
 a139:=Tryz.isAgg224
 z139:=Tryz.sizeOf224
 v139:=Tryz.zeroValue224
 t146:=Tryz.underlying226
 a146:=Tryz.isAgg226
 z146:=Tryz.sizeOf226
 v146:=Tryz.zeroValue226
 g1:=by kernel_rfl
 g3:=by kernel_rfl
 g4:=by kernel_rfl }
def Tryz.lays146_ren:Go.Shelf.Ren:=⟨fun|146=>10|221=>21|268=>49|138=>50|143=>51|195=>86|197=>87|218=>88|219=>89|260=>114|217=>115|225=>116|224=>117|267=>118|266=>130|314=>131|n=>n,fun|9=>9|31=>52|3=>3|4=>4|0=>0|105=>184|21=>21|5=>5|46=>215|119=>221|139=>224|138=>223|146=>226|51=>225|n=>n,fun|1=>2|3=>3|4=>4|n=>n⟩
theorem Tryz.lays146:Go.Proofs.Lays.n146 Tryz.prog Tryz.lays146_ren:={
 mixed:=by kernel_rfl
 f138:=Tryz.func50.trans (congrArg some (by kernel_rfl))
 f143:=Tryz.func51.trans (congrArg some (by kernel_rfl))
 f146:=Tryz.func10.trans (congrArg some (by kernel_rfl))
 f195:=Tryz.func86.trans (congrArg some (by kernel_rfl))
 f197:=Tryz.func87.trans (congrArg some (by kernel_rfl))
 f217:=Tryz.func115.trans (congrArg some (by kernel_rfl))
 f218:=Tryz.func88.trans (congrArg some (by kernel_rfl))
 f219:=Tryz.func89.trans (congrArg some (by kernel_rfl))
 f221:=Tryz.func21.trans (congrArg some (by kernel_rfl))
 f224:=Tryz.func117.trans (congrArg some (by kernel_rfl))
 f225:=Tryz.func116.trans (congrArg some (by kernel_rfl))
 f260:=Tryz.func114.trans (congrArg some (by kernel_rfl))
 f266:=Tryz.func130.trans (congrArg some (by kernel_rfl))
 f267:=Tryz.func118.trans (congrArg some (by kernel_rfl))
 f268:=Tryz.func49.trans (congrArg some (by kernel_rfl))
 f314:=Tryz.func131.trans (congrArg some (by kernel_rfl))
 t0:=Tryz.underlying0
 a0:=Tryz.isAgg0
 z0:=Tryz.sizeOf0
 v0:=Tryz.zeroValue0
 t3:=Tryz.underlying3
 a3:=Tryz.isAgg3
 z3:=Tryz.sizeOf3
 v3:=Tryz.zeroValue3
 t4:=Tryz.underlying4
 a4:=Tryz.isAgg4
 z4:=Tryz.sizeOf4
 v4:=Tryz.zeroValue4
 t5:=Tryz.underlying5
 a5:=Tryz.isAgg5
 z5:=Tryz.sizeOf5
 v5:=Tryz.zeroValue5
 t9:=Tryz.underlying9
 a9:=Tryz.isAgg9
 z9:=Tryz.sizeOf9
 v9:=Tryz.zeroValue9
 t21:=Tryz.underlying21
 a21:=Tryz.isAgg21
 z21:=Tryz.sizeOf21
 v21:=Tryz.zeroValue21
 t31:=Tryz.underlying52
 a31:=Tryz.isAgg52
 z31:=Tryz.sizeOf52
 v31:=Tryz.zeroValue52
 t46:=Tryz.underlying215
 a46:=Tryz.isAgg215
 z46:=Tryz.sizeOf215
 v46:=Tryz.zeroValue215
 t51:=Tryz.underlying225
 a51:=Tryz.isAgg225
 z51:=Tryz.sizeOf225
 v51:=Tryz.zeroValue225
 t105:=Tryz.underlying184
 a105:=Tryz.isAgg184
 z105:=Tryz.sizeOf184
 v105:=Tryz.zeroValue184
 t119:=Tryz.underlying221
 a119:=Tryz.isAgg221
 z119:=Tryz.sizeOf221
 t138:=Tryz.underlying223
 a138:=Tryz.isAgg223
 z138:=Tryz.sizeOf223
 v138:=Tryz.zeroValue223
 t139:=Tryz.underlying224
 a139:=Tryz.isAgg224
 z139:=Tryz.sizeOf224
 v139:=Tryz.zeroValue224
 t146:=Tryz.underlying226
 a146:=Tryz.isAgg226
 z146:=Tryz.sizeOf226
 v146:=Tryz.zeroValue226
 g1:=by kernel_rfl
 g3:=by kernel_rfl
 g4:=by kernel_rfl }
def Tryz.lays105_ren:Go.Shelf.Ren:=⟨fun|105=>185|212=>186|99=>121|165=>113|166=>45|170=>187|169=>47|263=>188|264=>189|206=>90|240=>84|241=>129|276=>112|277=>147|n=>n,fun|9=>9|3=>3|4=>4|20=>20|0=>0|46=>215|109=>272|5=>5|72=>118|76=>121|51=>225|146=>226|53=>237|148=>275|70=>115|37=>116|75=>120|127=>182|164=>211|80=>61|n=>n,fun|n=>n⟩
theorem Tryz.lays105:Go.Proofs.Lays.n105 Tryz.prog Tryz.lays105_ren:={
 mixed:=by kernel_rfl
 f99:=Tryz.func121.trans (congrArg some (by kernel_rfl))
 f105:=Tryz.func185.trans (congrArg some (by kernel_rfl))
 f165:=Tryz.func113.trans (congrArg some (by kernel_rfl))
 f166:=Tryz.func45.trans (congrArg some (by kernel_rfl))
 f169:=Tryz.func47.trans (congrArg some (by kernel_rfl))
 f170:=Tryz.func187.trans (congrArg some (by kernel_rfl))
 f206:=Tryz.func90.trans (congrArg some (by kernel_rfl))
 f212:=Tryz.func186.trans (congrArg some (by kernel_rfl))
 f240:=Tryz.func84.trans (congrArg some (by kernel_rfl))
 f241:=Tryz.func129.trans (congrArg some (by kernel_rfl))
 f263:=Tryz.func188.trans (congrArg some (by kernel_rfl))
 f264:=Tryz.func189.trans (congrArg some (by kernel_rfl))
 f276:=Tryz.func112.trans (congrArg some (by kernel_rfl))
 f277:=Tryz.func147.trans (congrArg some (by kernel_rfl))
 t0:=Tryz.underlying0
 a0:=Tryz.isAgg0
 z0:=Tryz.sizeOf0
 v0:=Tryz.zeroValue0
 t3:=Tryz.underlying3
 a3:=Tryz.isAgg3
 z3:=Tryz.sizeOf3
 v3:=Tryz.zeroValue3
 t4:=Tryz.underlying4
 a4:=Tryz.isAgg4
 z4:=Tryz.sizeOf4
 v4:=Tryz.zeroValue4
 t5:=Tryz.underlying5
 a5:=Tryz.isAgg5
 z5:=Tryz.sizeOf5
 v5:=Tryz.zeroValue5
 t9:=Tryz.underlying9
 a9:=Tryz.isAgg9
 z9:=Tryz.sizeOf9
 v9:=Tryz.zeroValue9
 t20:=Tryz.underlying20
 a20:=Tryz.isAgg20
 z20:=Tryz.sizeOf20
 v20:=Tryz.zeroValue20
 t37:=Tryz.underlying116
 a37:=Tryz.isAgg116
 z37:=Tryz.sizeOf116
 v37:=Tryz.zeroValue116
 t46:=Tryz.underlying215
 a46:=Tryz.isAgg215
 z46:=Tryz.sizeOf215
 v46:=Tryz.zeroValue215
 t51:=Tryz.underlying225
 a51:=Tryz.isAgg225
 z51:=Tryz.sizeOf225
 v51:=Tryz.zeroValue225
 t53:=Tryz.underlying237
 a53:=Tryz.isAgg237
 z53:=Tryz.sizeOf237
 v53:=Tryz.zeroValue237
 t70:=Tryz.underlying115
 a70:=Tryz.isAgg115
 z70:=Tryz.sizeOf115
 v70:=Tryz.zeroValue115
 t72:=Tryz.underlying118
 a72:=Tryz.isAgg118
 z72:=Tryz.sizeOf118
 v72:=Tryz.zeroValue118
 t75:=Tryz.underlying120
 a75:=Tryz.isAgg120
 z75:=Tryz.sizeOf120
 v75:=Tryz.zeroValue120
 t76:=Tryz.underlying121
 a76:=Tryz.isAgg121
 z76:=Tryz.sizeOf121
 v76:=Tryz.zeroValue121
 t109:=Tryz.underlying272
 a109:=Tryz.isAgg272
 z109:=Tryz.sizeOf272
 v109:=Tryz.zeroValue272
 t127:=Tryz.underlying182
 a127:=Tryz.isAgg182
 z127:=Tryz.sizeOf182
 v127:=Tryz.zeroValue182
 t146:=Tryz.underlying226
 a146:=Tryz.isAgg226
 z146:=Tryz.sizeOf226
 v146:=Tryz.zeroValue226
 t148:=Tryz.underlying275
 a148:=Tryz.isAgg275
 z148:=Tryz.sizeOf275
 v148:=Tryz.zeroValue275
 t164:=Tryz.underlying211
 a164:=Tryz.isAgg211
 z164:=Tryz.sizeOf211
 v164:=Tryz.zeroValue211 }
end Go.Proofs

namespace Go.Ab.V
open Go.Proofs Go.RowKit
def bA (l:List UInt8):ByteArray:=⟨l.toArray⟩
theorem vrels1 {σ:Sg} {a:AV} {vs:Array Value} (h:VRels σ [a] vs.toList):∃v,vs= #[v]∧VRel σ a v:=by
 obtain ⟨l,h⟩:=h
 match vs with
 | ⟨[v]⟩=>exact ⟨v,rfl,h 0 a v rfl rfl⟩
 | ⟨[]⟩=>simp at l
 | ⟨_::_::_⟩=>simp at l
theorem vrels2 {σ:Sg} {a b:AV} {vs:Array Value} (h:VRels σ [a,b] vs.toList):∃v w,vs= #[v,w]∧VRel σ a v∧VRel σ b w:=by
 obtain ⟨l,h⟩:=h
 match vs with
 | ⟨[v,w]⟩=>exact ⟨v,w,rfl,h 0 a v rfl rfl,h 1 b w rfl rfl⟩
 | ⟨[]⟩=>simp at l
 | ⟨[_]⟩=>simp at l
 | ⟨_::_::_::_⟩=>simp at l
def pow10V:Array Value:=#[.int .u64 1,.int .u64 10,.int .u64 100,.int .u64 1000,.int .u64 10000,.int .u64 100000,.int .u64 1000000,.int .u64 10000000,.int .u64 100000000,.int .u64 1000000000,.int .u64 10000000000,.int .u64 100000000000,.int .u64 1000000000000,.int .u64 10000000000000,.int .u64 100000000000000,.int .u64 1000000000000000,.int .u64 10000000000000000,.int .u64 100000000000000000,.int .u64 1000000000000000000,.int .u64 10000000000000000000]
theorem tab10 {σ : Sg} {h : Heap} {w : World} (s : Sim σ h w) : Lib.TabIs Tryz.prog w "internal/strconv.uint64pow10" .u64 Lib.pow10Tab := by
 obtain ⟨T, fz, hb⟩ := s.glob (b := 5) (cs := pow10V) (by simp [GL, pow10V]);have hg : Tryz.prog.globalNamed "internal/strconv.uint64pow10" = some 5 := by kernel_rfl
 have hv:(Lib.pow10Tab.map fun z=>Value.int .u64 z).toArray=pow10V:=by kernel_rfl
 unfold Lib.TabIs World.var?;rw [hg,hv];simp only [Option.bind_some,hb]
theorem itoa_spec (n:Int) (h0: -1000<n) (h1:n<1000):PRet C.P 83 [.int .i64 n] (.str (itoa3 n)):=by
 refine pret_lib rfl fun σ w vs s hv=>?_;obtain ⟨v,rfl,hr⟩:=vrels1 hv;cases hr;refine (Any.strconv_Itoa Tryz.laysM171 n (by omega) (by omega) w (tab10 s)).mono ?_;rintro e w' ⟨rfl,k,os,rfl⟩;rw [itoa_eq h0 h1];refine ⟨_,rfl,⟨rfl,rfl,rfl,?_,fun b hb=>?_⟩,.str⟩
 ·show _≤(w.heap++os).size;simp
 ·show (w.heap++os)[b]? =_;exact Array.getElem?_append_left hb
theorem prefix_spec (s p:List UInt8):PRet C.P 121 [.str s,.str p] (.bool (p.isPrefixOf s)):=by
 refine pret_lib rfl fun σ w vs _ hv=>?_;obtain ⟨v,u,rfl,h1,h2⟩:=vrels2 hv;cases h1;cases h2;refine (Any.strings_HasPrefix Tryz.lays99 (bA s) (bA p) w).mono ?_;rintro e w' ⟨rfl,rfl⟩;exact ⟨_,rfl,Below.refl _ _,.bool⟩
theorem indexByte_spec (s:List UInt8) (c:Int):PRet C.P 120 [.str s,.int .u8 c] (.int .i64 (Lib.indexByte s c.toNat.toUInt8)):=by
 refine pret_lib rfl fun σ w vs _ hv=>?_;obtain ⟨v,u,rfl,h1,h2⟩:=vrels2 hv;cases h1;cases h2;refine (Any.strings_IndexByte Tryz.lays137 (bA s) c w).mono ?_;rintro e w' ⟨rfl,rfl⟩;exact ⟨_,rfl,Below.refl _ _,.int⟩
def repB (l:List UInt8):Nat→List UInt8
 |0=>[]
 |n+1=>l++repB l n
theorem repB_eq (l:List UInt8):∀n,Lib.repeatL l n=repB l n
 |0=>rfl
 |n+1=>by rw [Lib.repeatL,repB,repB_eq l n]
theorem repeat_spec (s:List UInt8) (n:Nat) (h:s.length * n≤1000000) (hn:n≤1000000):PRet C.P 185 [.str s,.int .i64 n] (.str (repB s n)):=by
 refine pret_lib rfl fun σ w vs _ hv=>?_;obtain ⟨v,u,rfl,h1,h2⟩:=vrels2 hv;cases h1;cases h2;have X:Builder.Extra Tryz.prog Tryz.lays105_ren:={ sizeBuilder:=by kernel_rfl,liesBuilder:=by kernel_rfl,t5:=Tryz.underlying5,a5:=Tryz.isAgg5,z5:=Tryz.sizeOf5,v5:=Tryz.zeroValue5,infoByte:=by kernel_rfl,cellsByte:=by kernel_rfl,sizeByte:=by kernel_rfl,neB5:=by decide };refine (Any.strings_Repeat Tryz.lays105 X (bA s) n w (by omega) (by show s.length * n≤_;omega)).mono ?_;rintro e w' ⟨rfl,hb⟩;exact ⟨_,rfl,hb,by rw [←repB_eq];exact .str⟩
def strR (l:List (List UInt8)):List (List AV):=l.map fun x=>[.str x]
def strsA (l:List (List UInt8)):AV:=.lslc 1 (strR l) 0 l.length false
theorem pure_strR (l:List (List UInt8)):pureRows (strR l):=by
 intro row hr c hc;obtain ⟨x,_,rfl⟩:=List.mem_map.mp hr;cases List.mem_singleton.mp hc;rfl
def joinS (sep:List UInt8):List (List UInt8)→List UInt8
 | []=>[]
 | [x]=>x
 |x::r=>x++sep++joinS sep r
theorem joinS_eq (sep:List UInt8):∀l,Lib.join l sep=joinS sep l
 | []=>Lib.join_nil sep
 | [x]=>Lib.join_one x sep
 |x::y::r=>by
  have:=joinS_eq sep (y::r);rw [Lib.join_cons] at this;rw [Lib.join_cons];show _=x++sep++joinS sep (y::r);rw [←this];simp [Lib.joinTail]
theorem join_spec (l:List (List UInt8)) (sep:List UInt8) (off:Nat) (hl:off+l.length≤100000) (pre:List (List UInt8)) (hp:pre.length=off) (hj:(joinS sep l).length≤100000000):
  PRet C.P 85 [.lslc 1 (strR (pre++l)) off l.length false,.str sep] (.str (joinS sep l)):=by
 refine pret_lib rfl fun σ w vs s hv=>?_;obtain ⟨v,u,rfl,h1,h2⟩:=vrels2 hv;cases h2;have X:Builder.Extra Tryz.prog Tryz.lays156_ren:={ sizeBuilder:=by kernel_rfl,liesBuilder:=by kernel_rfl,t5:=Tryz.underlying5,a5:=Tryz.isAgg5,z5:=Tryz.sizeOf5,v5:=Tryz.zeroValue5,infoByte:=by kernel_rfl,cellsByte:=by kernel_rfl,sizeByte:=by kernel_rfl,neB5:=by decide };have nul:∀a,l.length=0→Calls Tryz.prog 85 #[.slice a 0 0,.string ⟨sep.toArray⟩] w fun e w'=>∃v,e= .returned v∧Below w.heap.size w w'∧VRel σ (.str (joinS sep l)) v:=by
  intro a h0;obtain rfl:=List.eq_nil_of_length_eq_zero h0;refine (Any.strings_Join_none Tryz.lays156 X a 0 (bA sep) w).mono ?_;rintro e w' ⟨rfl,rfl⟩;exact ⟨_,rfl,Below.refl _ _,.str⟩
 generalize hL:l.length=L at h1 nul;cases h1 with
 |lnil=>exact nul none rfl
 |lz=>exact nul _ rfl
 |lslc g hw hc ho hg h1 h3 h5=>
  rename_i blk st cap;have cl:∀(j:Nat) (x:ByteArray),(l.map bA)[j]? =some x→w.cell? ⟨blk,st+off * 1+j,none⟩=some (.string x):=by
   intro j x hx;rw [List.getElem?_map,Option.map_eq_some_iff] at hx;obtain ⟨y,hy,rfl⟩:=hx;have hcell:cellAt (strR (pre++l)) (off+j) 0=some (.str y):=by
    unfold cellAt strR;rw [List.getElem?_map,List.getElem?_append_right (by omega)];have e:off+j-pre.length=j:=by omega
    rw [e,hy];rfl
   obtain ⟨cs,c1,c2⟩:=hc _ _ _ hcell;obtain ⟨T,fz,c3⟩:=s.fm _ _ c1;have c4:=hg _ _ _ hcell;generalize hgv:g (off+j) 0=u at c2 c4;cases c4;have e2:st+(off+j) * 1+0=st+off * 1+j:=by omega
   rw [e2] at c2;rw [Nat.mul_one] at c2;simp [World.cell?,c3,bA];exact c2
  have hblk:blk<w.heap.size∨L=0:=by
   cases l with
   |nil=>right;simp at hL;omega
   |cons x r=>
    left
    have:=cl 0 (bA x) rfl;unfold World.cell? at this
    split at this
    ·rename_i h;exact (Array.getElem?_eq_some_iff.1 h).1
    ·cases this
  rcases hblk with hblk|h0
  ·have hm:(l.map bA).map (·.data.toList)=l:=by
    rw [List.map_map]
    conv=>rhs;rw [←List.map_id l]
    exact List.map_congr_left fun x _=>rfl
   have k:=Any.strings_Join Tryz.lays156 X blk (st+off * 1) cap (l.map bA) (bA sep) w cl hblk (by simp<;>omega) (by simp<;>omega) (by rw [hm];show (Lib.join l sep).length≤_;rw [joinS_eq];omega);rw [hm] at k;have e3:(bA sep).data.toList=sep:=rfl;rw [e3,joinS_eq] at k;simp only [List.length_map,hL] at k;refine k.mono ?_;rintro e w' ⟨rfl,hb⟩;exact ⟨_,rfl,hb,.str⟩
  ·subst h0;obtain rfl:=List.eq_nil_of_length_eq_zero hL;refine (Any.strings_Join_none Tryz.lays156 X _ cap (bA sep) w).mono ?_;rintro e w' ⟨rfl,rfl⟩;exact ⟨_,rfl,Below.refl _ _,.str⟩
def splitC (c:UInt8):List UInt8→List (List UInt8)
 | []=>[[]]
 |b::l=>if b=c then []::splitC c l else match splitC c l with
  |x::r=>(b::x)::r
  | []=>[[b]]
theorem splitC_ne (c:UInt8):∀l,splitC c l≠[]
 | []=>by simp [splitC]
 |b::l=>by
  unfold splitC
  split
  ·simp
  ·split<;>simp
theorem splitC_no {c:UInt8}:∀{l:List UInt8},c∉l→splitC c l=[l]
 | [],_=>rfl
 |b::l,h=>by
  rw [splitC,if_neg (fun e:b=c=>h (e ▸ List.mem_cons_self ..)),splitC_no (fun x=>h (List.mem_cons_of_mem _ x))]
theorem splitC_at {c:UInt8}:∀{a b:List UInt8},c∉a→splitC c (a++c::b)=a::splitC c b
 | [],b,_=>by rw [List.nil_append,splitC,if_pos rfl]
 |x::a,b,h=>by
  rw [List.cons_append,splitC,if_neg (fun e:x=c=>h (e ▸ List.mem_cons_self ..)),splitC_at (fun x=>h (List.mem_cons_of_mem _ x))]
theorem mem_cut {c:UInt8}:∀{l:List UInt8},c∈l→∃a b,l=a++c::b∧c∉a
 |x::l,h=>by
  by_cases e:x=c
  ·exact ⟨[],l,by rw [e];rfl,by simp⟩
  ·obtain ⟨a,b,h1,h2⟩:=mem_cut (l:=l) (by
    rcases List.mem_cons.1 h with h|h
    ·exact absurd h.symm e
    ·exact h)
   exact ⟨x::a,b,by rw [h1];rfl,by simp [h2,Ne.symm e]⟩
theorem index_no {c:UInt8}:∀{l:List UInt8},c∉l→Lib.index l [c]= -1
 | [],_=>rfl
 |b::l,h=>by
  have hb:(c==b)=false:=by
   rw [beq_eq_false_iff_ne];exact fun e=>h (e ▸ List.mem_cons_self ..)
  rw [Lib.index,index_no (fun x=>h (List.mem_cons_of_mem _ x))];simp [List.isPrefixOf,hb]
theorem index_at {c:UInt8}:∀{a b:List UInt8},c∉a→Lib.index (a++c::b) [c]=a.length
 | [],b,_=>by simp [Lib.index,List.isPrefixOf]
 |x::a,b,h=>by
  have hb:(c==x)=false:=by
   rw [beq_eq_false_iff_ne];exact fun e=>h (e ▸ List.mem_cons_self ..)
  rw [List.cons_append,Lib.index,index_at (fun x=>h (List.mem_cons_of_mem _ x))];simp only [List.isPrefixOf,hb,Bool.false_and,Bool.false_eq_true,if_false,List.length_cons];rw [if_neg (by simp<;>omega)];omega
theorem indexByte_no {c:UInt8}:∀{l:List UInt8},c∉l→Lib.indexByte l c= -1
 | [],_=>rfl
 |b::l,h=>by
  have hb:(b==c)=false:=by
   rw [beq_eq_false_iff_ne];exact fun e=>h (e ▸ List.mem_cons_self ..)
  rw [Lib.indexByte,indexByte_no (fun x=>h (List.mem_cons_of_mem _ x)),hb];rfl
theorem indexByte_at {c:UInt8}:∀{a b:List UInt8},c∉a→Lib.indexByte (a++c::b) c=a.length
 | [],b,_=>by simp [Lib.indexByte]
 |x::a,b,h=>by
  have hb:(x==c)=false:=by
   rw [beq_eq_false_iff_ne];exact fun e=>h (e ▸ List.mem_cons_self ..)
  rw [List.cons_append,Lib.indexByte,indexByte_at (fun x=>h (List.mem_cons_of_mem _ x)),hb];simp only [Bool.false_eq_true,if_false,List.length_cons];rw [if_neg (by simp<;>omega)];omega
theorem splitK_eq (c:UInt8):∀(k:Nat) (l:List UInt8),l.count c≤k→Lib.splitK [c] 0 k l=splitC c l
 |0,l,h=>by
  rw [Lib.splitK,splitC_no (List.count_eq_zero.1 (by omega))]
 |k+1,l,h=>by
  rw [Lib.splitK];by_cases hc:c∈l
  ·obtain ⟨a,b,rfl,ha⟩:=mem_cut hc;rw [index_at ha,splitC_at ha,if_neg (by simp<;>omega)];have hb:b.count c≤k:=by
    rw [List.count_append,List.count_cons_self] at h;omega
   have e1:(a++c::b).drop (((a.length:Int)).toNat+[c].length)=b:=by simp
   have e2:(a++c::b).take (((a.length:Int)).toNat+0)=a:=by simp
   rw [e1,e2,splitK_eq c k b hb]
  ·rw [index_no hc,splitC_no hc];rfl
theorem splitC_len (c:UInt8):∀l:List UInt8,(splitC c l).length=l.count c+1
 | []=>rfl
 |b::l=>by
  have ih:=splitC_len c l;unfold splitC
  split
  ·rename_i e;subst e;simp [ih]
  ·rename_i e;rw [List.count_cons_of_ne e]
   split
   ·rename_i h;rw [h] at ih;simpa using ih
   ·rename_i h;exact absurd h (splitC_ne c l)
theorem splitC_sum (c:UInt8):∀(l:List UInt8) (x:List UInt8),x∈splitC c l→x.length≤l.length
 | [],x,h=>by simp [splitC] at h;subst h;simp
 |b::l,x,h=>by
  unfold splitC at h
  split at h
  ·rcases List.mem_cons.1 h with rfl|h
   ·simp
   ·have:=splitC_sum c l x h;simp;omega
  ·split at h
   ·rename_i y r hy
    rcases List.mem_cons.1 h with rfl|h
    ·have:=splitC_sum c l y (by rw [hy];exact List.mem_cons_self ..);simp;omega
    ·have:=splitC_sum c l x (by rw [hy];exact List.mem_cons_of_mem _ h);simp;omega
   ·simp at h;subst h;simp
theorem genSplit_calls (s:List UInt8) (c:UInt8) (w:World) (hs:s.length<4294967281):
  Calls Tryz.prog 21 #[.string (bA s),.string ⟨#[c]⟩,.int .i64 (0:Nat),.int .i64 (-1)] w fun e w'=>
   e= .returned (.slice (some ⟨w.heap.size,0,none⟩) (splitC c s).length (splitC c s).length)∧∃T,w'=w.alloc (.cells ((splitC c s).map fun x=>Value.string (bA x)).toArray T):=by
 have h1:1≤(⟨#[c]⟩:ByteArray).size:=Nat.le_refl 1;have hcount:Lib.countB (bA s) ⟨#[c]⟩=s.count c:=Lib.count_one c s;have k:=Any.strings_genSplit_core { Tryz.lays221 with } (by kernel_rfl) (bA s) ⟨#[c]⟩ 0 (-1) (s.count c+1) w hs h1 (Nat.zero_le _)
  (fun x cs hx=>Any.strings_Index_one { Tryz.lays143 with } x c _ |>.mono fun e w' h=>by
   refine ⟨?_,h.2⟩;rw [h.1];have:Lib.indexB x ⟨#[c]⟩=Lib.indexByte x.data.toList c:=by
    show Lib.index x.data.toList [c]=_;by_cases hc:c∈x.data.toList
    ·obtain ⟨a,b,e,ha⟩:=mem_cut hc;rw [e,index_at ha,indexByte_at ha]
    ·rw [index_no hc,indexByte_no hc]
   rw [this])
  (by
   rw [hcount];exact Any.strings_Count_one { Tryz.lays138 with } (bA s) c w)
  (by decide) (by decide) (by rw [if_pos (by decide),hcount];have:=List.count_le_length (a:=c) (l:=s);show _=min _ ((s.length:Int)+1);omega)
 have e1:(Lib.splitB ⟨#[c]⟩ 0 (s.count c+1-1) (bA s)).map (·.data.toList)=splitC c s:=by
  rw [Lib.splitB_data];exact splitK_eq c _ s (by simp)
 have e2:Lib.splitB ⟨#[c]⟩ 0 (s.count c+1-1) (bA s)=(splitC c s).map bA:=by
  rw [←e1,List.map_map]
  conv=>lhs;rw [←List.map_id (Lib.splitB ⟨#[c]⟩ 0 (s.count c+1-1) (bA s))]
  exact List.map_congr_left fun x _=>rfl
 refine Calls.mono k fun e w' h=>?_;obtain ⟨h1,h2⟩:=h;rw [e2] at h1 h2;have e4:((splitC c s).map bA).length=s.count c+1:=by rw [List.length_map,splitC_len]
 refine ⟨by rw [h1,splitC_len,List.length_map,splitC_len],Tryz.lays221_ren.t 9,?_⟩;rw [h2];have e5:Lib.cellsOf ((splitC c s).map bA) (s.count c+1)=((splitC c s).map fun x=>Value.string (bA x)).toArray:=by
  rw [←e4,Lib.cellsOf_full,List.map_map];rfl
 rw [e5]
end Go.Ab.V

namespace Go.Ab.V
open Go.Proofs Go.RowKit Go.Shelf
theorem split_calls (s:List UInt8) (c:UInt8) (w:World) (hs:s.length<4294967281):
  Calls Tryz.prog 10 #[.string (bA s),.string ⟨#[c]⟩] w fun e w'=>
   e= .returned (.slice (some ⟨w.heap.size,0,none⟩) (splitC c s).length (splitC c s).length)∧∃T,w'=w.alloc (.cells ((splitC c s).map fun x=>Value.string (bA x)).toArray T):=by
 have k:=genSplit_calls s c w hs;have L:=Tryz.lays146;have t3:=L.t3;have t9:=L.t9;have t31:=L.t31;have a3:=L.a3;have a9:=L.a9;have a31:=L.a31;have z3:=L.z3;have v3:=L.v3;have z9:=L.z9;have v9:=L.v9;have z31:=L.z31;have v31:=L.v31
 go_enter Tryz.func10,Tryz.ntmps10
 go_wp2_with (go_at_call 21;refine k.mono ?_;rintro e w' ⟨rfl,T,rfl⟩)
 go_ret
 exact ⟨rfl,_,rfl⟩
theorem split_spec (s:List UInt8) (c:UInt8) (hs:s.length<4294967281):PRet C.P 10 [.str s,.str [c]] (strsA (splitC c s)):=by
 have e:strsA (splitC c s)= .lslc 1 (((splitC c s).map AV.str).map fun a=>[a]) 0 ((splitC c s).map AV.str).length false:=by
  unfold strsA strR;rw [List.map_map,List.length_map];rfl
 rw [e];refine pret_list (l:=(splitC c s).map fun x=>Value.string (bA x)) (by simp) ?_ ?_ ?_ ?_
 ·rw [←e];rfl
 ·intro v hv;obtain ⟨x,_,rfl⟩:=List.mem_map.1 hv;rfl
 ·intro σ i a v ha hv;rw [List.getElem?_map,Option.map_eq_some_iff] at ha hv;obtain ⟨x,h1,rfl⟩:=ha;obtain ⟨y,h2,rfl⟩:=hv;rw [h1] at h2;cases h2;exact .str
 ·intro σ w vs _ hv;obtain ⟨v,u,rfl,h1,h2⟩:=vrels2 hv;cases h1;cases h2;refine (split_calls s c w hs).mono ?_;rintro e w' ⟨rfl,T,rfl⟩;exact ⟨T,by simp,rfl⟩
end Go.Ab.V

namespace Go.Ab.V
open Go.Proofs
inductive Sy where
 |fr|it|sp|ge
 deriving DecidableEq
def Sy.t:Sy→Nat
 | .fr=>128| .it=>132| .sp=>134| .ge=>136
def Sy.n:Sy→Int
 | .fr=>1| .it=>2| .sp=>3| .ge=>4
def Sy.a (s:Sy):AV:=.ifc s.t (.agg #[])
def syOf (n:Int):Option Sy:=if n=1 then some .fr else if n=2 then some .it else if n=3 then some .sp else if n=4 then some .ge else none
def ofA:Option Sy→AV
 |some s=>.tup [s.a,.bool true]
 |none=>.tup [.nili,.bool false]
theorem of_spec (n:Int):PRet C.P 24 [.int .u8 n] (ofA (syOf n)):=by
 refine pret_of ok mixed (A:=fun _=>{}) 1 Tryz.func24 rfl ?_
 (repeat' (first|exact rfl|((conv=>whnf);first|exact rfl|refine ⟨by kernel_rfl,?_⟩|exact ⟨rfl,rfl⟩|refine go0 ?_|(intro ep)|(refine ifB ?_ ?_<;>intro hb<;>(try simp only [qs] at hb)<;>(try simp (disch:=omega) only [wrapI] at hb)<;>(try (exfalso;omega)))|fail)))
 all_goals (unfold syOf;simp only [if_pos,if_neg, *];first|rfl|(simp;rfl)|(simp [*];done))
def figS (f:Int):List UInt8×Bool:=if 0≤f∧f≤9 then (itoa3 f,true) else if f=10 then ([120],true) else ([],false)
def sbA (p:List UInt8×Bool):AV:=.tup [.str p.1,.bool p.2]
def A190:Ann:=fun r=>match r with
 |0=>{ slots:=[(0,0)] }
 |_=>{}
theorem fig_spec (f:Int):PRet C.P 190 [.agg [],.int .i64 f] (sbA (figS f)):=by
 refine pret_of ok mixed (A:=A190) 1 Tryz.func190 rfl ?_
 (repeat' (first|exact rfl|((conv=>whnf);first|exact rfl|exact ⟨rfl,rfl⟩|refine go1 ?_|(intro ep)|refine ⟨_,itoa_spec _ (by omega) (by omega),?_⟩|(refine ifB ?_ ?_<;>intro hb<;>(try simp only [qs] at hb)<;>(try simp (disch:=omega) only [wrapI] at hb)<;>(try (exfalso;omega)))|fail)))
 all_goals (unfold figS;((repeat' split)<;>first|rfl|omega|(exfalso;omega)|(simp_all;done)|(simp_all;omega)))
def mkd (l:List (List UInt8)) (m:Int):List UInt8×Bool:=if m<0∨(l.length:Int)≤m then ([],false) else if 0<m∧l.getD m.toNat []=[] then ([],false) else (l.getD m.toNat [],true)
theorem strR_get {l:List (List UInt8)} {n:Nat} (h:n<l.length):(strR l)[0+((n:Nat):Int).toNat]? =some [.str (l.getD n [])]:=by
 rw [Nat.zero_add,Int.toNat_natCast,strR,List.getElem?_map,List.getElem?_eq_getElem h,List.getD,List.getElem?_eq_getElem h];rfl
theorem mkd_spec (l:List (List UInt8)) (m:Int) (hl:l.length≤1000):PRet C.P 184 [strsA l,.int .i64 m] (sbA (mkd l m)):=by
 refine pret_of ok mixed (A:=fun _=>{}) 1 Tryz.func184 rfl ?_;by_cases h0:m<0∨(l.length:Int)≤m
 ·have e:mkd l m=([],false):=by unfold mkd;rw [if_pos h0]
  rw [e]
  (repeat' (first|exact rfl|((conv=>whnf);first|exact rfl|refine ⟨by kernel_rfl,?_⟩|exact ⟨rfl,rfl⟩|refine go0 ?_|(intro ep)|(refine ifB ?_ ?_<;>intro hb<;>(try simp only [qs] at hb)<;>(try simp (disch:=omega) only [wrapI] at hb)<;>(try (exfalso;omega)))|fail)))
 ·obtain ⟨n,rfl⟩:∃n:Nat,m=n:=⟨m.toNat,by omega⟩;have hn:n<l.length:=by omega
  have hg:=strR_get hn
  (repeat' (first|exact rfl|((conv=>whnf);first|exact rfl|exact ⟨rfl,rfl⟩|refine go1 ?_|(intro ep)|refine optS hg ?_|(refine ifB ?_ ?_<;>intro hb<;>(try simp only [qs] at hb)<;>(try simp (disch:=omega) only [wrapI] at hb)<;>(try (exfalso;omega)))|fail)))
  all_goals (unfold mkd;rw [if_neg h0];simp only [Int.toNat_natCast] at *;((repeat' split)<;>first|rfl|omega|(exfalso;omega)|(simp_all;done)|(simp_all;omega)))
end Go.Ab.V
