/- A part of the proof of FnExactConfStoreOk. Texts put together: LY, DEC, VC0, PS1, VC1, PS2, VC2, PS3, PS4, VF0, PF0, VF1, VF2, PN1, PN2, PN3, PN4, PA1, PA2, PA3, PA4, VF3, PA5, PA6, PA7, PA8, PJ1, VFF, PFF, PCL0, VCL, PCL. -/
import Derived.Test.YthjaknclldmheaaGreatDoorRows
import Derived.Shelf.LaysM
import Derived.Shelf.Slices.In.SortAlone
import Derived.Shelf.Strconv.AtoiAll
import Derived.Shelf.Strconv.Itoa3
import Derived.Shelf.Strings.Cut
import Derived.Shelf.Strings.OnBuilder
import Derived.Shelf.Strings.Split
import Derived.WalkKit
import Derived.BigCall
import Derived.BigGuard
import Derived.Lib.Walk
import Derived.Lib.Hide
import Derived.Lib.IndexBytes
import Derived.Lib.SplitLaws
import Derived.Lib.CutLaws
import Derived.Lib.AtoiAll
import Derived.Lib.ItoaNum
import Derived.Test.YthjaknclldmheaaGreatDoorZC51B
namespace Go.Proofs.YthjaknclldmheaaGreatDoor
open Go.Shelf Go.RowKit
def Qtk:Go.Shelf.Ren:=⟨fun | 145=>34 | 220=>67 | 219=>97 | 217=>128 | 225=>129 | 224=>130 | 267=>131 | 266=>171 | 314=>172 | n=>n,fun | 9=>9 | 4=>4 | 59=>61 | 3=>3 | 5=>5 | 46=>98 | 146=>176 | 51=>140 | n=>n,fun | 1=>0 | n=>n⟩
theorem layCut:Go.Proofs.Lays.n145 Tryz.prog Qtk:={
 mixed:=by kernel_rfl
 f145:=Tryz.func34.trans (Qt some (by kernel_rfl))
 f217:=Tryz.func128.trans (Qt some (by kernel_rfl))
 f219:=Tryz.func97.trans (Qt some (by kernel_rfl))
 f220:=Tryz.func67.trans (Qt some (by kernel_rfl))
 f224:=Tryz.func130.trans (Qt some (by kernel_rfl))
 f225:=Tryz.func129.trans (Qt some (by kernel_rfl))
 f266:=Tryz.func171.trans (Qt some (by kernel_rfl))
 f267:=Tryz.func131.trans (Qt some (by kernel_rfl))
 f314:=Tryz.func172.trans (Qt some (by kernel_rfl))
 t3:=Tryz.underlying3
 a3:=Tryz.isAgg3
 z3:=Tryz.sizeOf3
 v3:=Tryz.zeroValue3
 t4:=Tryz.underlying4
 a4:=Tryz.isAgg4
 z4:=Tryz.sizeOf4
 v4:=Tryz.zeroValue4
 t5:=Tryz.underlying5
 a5:=Tryz.isAgg5
 z5:=Tryz.sizeOf5
 v5:=Tryz.zeroValue5
 t9:=Tryz.underlying9
 a9:=Tryz.isAgg9
 z9:=Tryz.sizeOf9
 v9:=Tryz.zeroValue9
 t46:=Tryz.underlying98
 a46:=Tryz.isAgg98
 z46:=Tryz.sizeOf98
 v46:=Tryz.zeroValue98
 t51:=Tryz.underlying140
 a51:=Tryz.isAgg140
 z51:=Tryz.sizeOf140
 v51:=Tryz.zeroValue140
 t59:=Tryz.underlying61
 a59:=Tryz.isAgg61
 z59:=Tryz.sizeOf61
 v59:=Tryz.zeroValue61
 t146:=Tryz.underlying176
 a146:=Tryz.isAgg176
 z146:=Tryz.sizeOf176
 v146:=Tryz.zeroValue176
 g1:=by kernel_rfl }
def Qpl:Go.Shelf.Ren:=⟨fun | 145=>34 | 220=>67 | 219=>97 | 217=>128 | 225=>129 | 224=>130 | 267=>131 | 266=>171 | 314=>172 | n=>n,fun | 9=>9 | 4=>4 | 59=>61 | 3=>3 | 5=>5 | 46=>98 | 146=>176 | 51=>140 | n=>n,fun | 1=>0 | n=>n⟩
theorem layCutM:Go.Proofs.LaysM.n145 Tryz.prog Qpl:={
 mixed:=by kernel_rfl
 f145:=Tryz.func34.trans (Qt some (by kernel_rfl))
 f217:=Tryz.func128.trans (Qt some (by kernel_rfl))
 f219:=Tryz.func97.trans (Qt some (by kernel_rfl))
 f220:=Tryz.func67.trans (Qt some (by kernel_rfl))
 f224:=Tryz.func130.trans (Qt some (by kernel_rfl))
 f225:=Tryz.func129.trans (Qt some (by kernel_rfl))
 f266:=Tryz.func171.trans (Qt some (by kernel_rfl))
 f267:=Tryz.func131.trans (Qt some (by kernel_rfl))
 f314:=Tryz.func172.trans (Qt some (by kernel_rfl))
 t3:=Tryz.underlying3
 a3:=Tryz.isAgg3
 z3:=Tryz.sizeOf3
 v3:=Tryz.zeroValue3
 t4:=Tryz.underlying4
 a4:=Tryz.isAgg4
 z4:=Tryz.sizeOf4
 v4:=Tryz.zeroValue4
 t5:=Tryz.underlying5
 a5:=Tryz.isAgg5
 z5:=Tryz.sizeOf5
 v5:=Tryz.zeroValue5
 t9:=Tryz.underlying9
 a9:=Tryz.isAgg9
 z9:=Tryz.sizeOf9
 v9:=Tryz.zeroValue9
 t46:=Tryz.underlying98
 a46:=Tryz.isAgg98
 z46:=Tryz.sizeOf98
 v46:=Tryz.zeroValue98
 t51:=Tryz.underlying140
 a51:=Tryz.isAgg140
 z51:=Tryz.sizeOf140
 v51:=Tryz.zeroValue140
 t59:=Tryz.underlying61
 a59:=Tryz.isAgg61
 z59:=Tryz.sizeOf61
 v59:=Tryz.zeroValue61
 t146:=Tryz.underlying176
 a146:=Tryz.isAgg176
 z146:=Tryz.sizeOf176
 v146:=Tryz.zeroValue176
 g1:=by kernel_rfl
 i3:=by kernel_rfl
 i4:=by kernel_rfl
 i5:=by kernel_rfl
 i9:=by kernel_rfl
 i46:=by kernel_rfl
 i51:=by kernel_rfl
 i59:=by kernel_rfl
 i146:=by kernel_rfl
 m1:=by kernel_rfl
 s1_3:=fun w h=>Go.Proofs.cell_of_shapedOpen_int (zero:=#[.int .i64 0]) (t:=3) h (Qb (by kernel_rfl)) (by kernel_rfl) rfl (by kernel_rfl) (by kernel_rfl) Tryz.underlying3 }
def Qma:Go.Shelf.Ren:=⟨fun | 146=>70 | 221=>100 | 268=>134 | 138=>135 | 143=>136 | 195=>178 | 197=>179 | 218=>180 | 219=>97 | 260=>203 | 217=>128 | 225=>129 | 224=>130 | 267=>131 | 266=>171 | 314=>172 | n=>n,fun | 9=>9 | 31=>22 | 3=>3 | 4=>4 | 0=>0 | 105=>179 | 21=>21 | 5=>5 | 46=>98 | 119=>200 | 139=>203 | 138=>202 | 146=>176 | 51=>140 | n=>n,fun | 1=>0 | 3=>1 | 4=>2 | n=>n⟩
theorem Ugz:Go.Proofs.Lays.n146 Tryz.prog Qma:={
 mixed:=by kernel_rfl
 f138:=Tryz.func135.trans (Qt some (by kernel_rfl))
 f143:=Tryz.func136.trans (Qt some (by kernel_rfl))
 f146:=Tryz.func70.trans (Qt some (by kernel_rfl))
 f195:=Tryz.func178.trans (Qt some (by kernel_rfl))
 f197:=Tryz.func179.trans (Qt some (by kernel_rfl))
 f217:=Tryz.func128.trans (Qt some (by kernel_rfl))
 f218:=Tryz.func180.trans (Qt some (by kernel_rfl))
 f219:=Tryz.func97.trans (Qt some (by kernel_rfl))
 f221:=Tryz.func100.trans (Qt some (by kernel_rfl))
 f224:=Tryz.func130.trans (Qt some (by kernel_rfl))
 f225:=Tryz.func129.trans (Qt some (by kernel_rfl))
 f260:=Tryz.func203.trans (Qt some (by kernel_rfl))
 f266:=Tryz.func171.trans (Qt some (by kernel_rfl))
 f267:=Tryz.func131.trans (Qt some (by kernel_rfl))
 f268:=Tryz.func134.trans (Qt some (by kernel_rfl))
 f314:=Tryz.func172.trans (Qt some (by kernel_rfl))
 t0:=Tryz.underlying0
 a0:=Tryz.isAgg0
 z0:=Tryz.sizeOf0
 v0:=Tryz.zeroValue0
 t3:=Tryz.underlying3
 a3:=Tryz.isAgg3
 z3:=Tryz.sizeOf3
 v3:=Tryz.zeroValue3
 t4:=Tryz.underlying4
 a4:=Tryz.isAgg4
 z4:=Tryz.sizeOf4
 v4:=Tryz.zeroValue4
 t5:=Tryz.underlying5
 a5:=Tryz.isAgg5
 z5:=Tryz.sizeOf5
 v5:=Tryz.zeroValue5
 t9:=Tryz.underlying9
 a9:=Tryz.isAgg9
 z9:=Tryz.sizeOf9
 v9:=Tryz.zeroValue9
 t21:=Tryz.underlying21
 a21:=Tryz.isAgg21
 z21:=Tryz.sizeOf21
 v21:=Tryz.zeroValue21
 t31:=Tryz.underlying22
 a31:=Tryz.isAgg22
 z31:=Tryz.sizeOf22
 v31:=Tryz.zeroValue22
 t46:=Tryz.underlying98
 a46:=Tryz.isAgg98
 z46:=Tryz.sizeOf98
 v46:=Tryz.zeroValue98
 t51:=Tryz.underlying140
 a51:=Tryz.isAgg140
 z51:=Tryz.sizeOf140
 v51:=Tryz.zeroValue140
 t105:=Tryz.underlying179
 a105:=Tryz.isAgg179
 z105:=Tryz.sizeOf179
 v105:=Tryz.zeroValue179
 t119:=Tryz.underlying200
 a119:=Tryz.isAgg200
 z119:=Tryz.sizeOf200
 t138:=Tryz.underlying202
 a138:=Tryz.isAgg202
 z138:=Tryz.sizeOf202
 v138:=Tryz.zeroValue202
 t139:=Tryz.underlying203
 a139:=Tryz.isAgg203
 z139:=Tryz.sizeOf203
 v139:=Tryz.zeroValue203
 t146:=Tryz.underlying176
 a146:=Tryz.isAgg176
 z146:=Tryz.sizeOf176
 v146:=Tryz.zeroValue176
 g1:=by kernel_rfl
 g3:=by kernel_rfl
 g4:=by kernel_rfl }
def Qda:Go.Shelf.Ren:=⟨fun | 156=>72 | 165=>103 | 166=>104 | 169=>105 | 240=>144 | 241=>145 | 276=>184 | 277=>185 | n=>n,fun | 31=>22 | 9=>9 | 3=>3 | 4=>4 | 0=>0 | 20=>20 | 72=>123 | 76=>127 | 70=>121 | 37=>85 | 75=>126 | 127=>156 | 164=>182 | 5=>5 | 80=>129 | n=>n,fun | n=>n⟩
theorem Uli:Go.Proofs.Lays.n156 Tryz.prog Qda:={
 mixed:=by kernel_rfl
 f156:=Tryz.func72.trans (Qt some (by kernel_rfl))
 f165:=Tryz.func103.trans (Qt some (by kernel_rfl))
 f166:=Tryz.func104.trans (Qt some (by kernel_rfl))
 f169:=Tryz.func105.trans (Qt some (by kernel_rfl))
 f240:=Tryz.func144.trans (Qt some (by kernel_rfl))
 f241:=Tryz.func145.trans (Qt some (by kernel_rfl))
 f276:=Tryz.func184.trans (Qt some (by kernel_rfl))
 f277:=Tryz.func185.trans (Qt some (by kernel_rfl))
 t0:=Tryz.underlying0
 a0:=Tryz.isAgg0
 z0:=Tryz.sizeOf0
 v0:=Tryz.zeroValue0
 t3:=Tryz.underlying3
 a3:=Tryz.isAgg3
 z3:=Tryz.sizeOf3
 v3:=Tryz.zeroValue3
 t4:=Tryz.underlying4
 a4:=Tryz.isAgg4
 z4:=Tryz.sizeOf4
 v4:=Tryz.zeroValue4
 t9:=Tryz.underlying9
 a9:=Tryz.isAgg9
 z9:=Tryz.sizeOf9
 v9:=Tryz.zeroValue9
 t20:=Tryz.underlying20
 a20:=Tryz.isAgg20
 z20:=Tryz.sizeOf20
 v20:=Tryz.zeroValue20
 t31:=Tryz.underlying22
 a31:=Tryz.isAgg22
 z31:=Tryz.sizeOf22
 v31:=Tryz.zeroValue22
 t37:=Tryz.underlying85
 a37:=Tryz.isAgg85
 z37:=Tryz.sizeOf85
 v37:=Tryz.zeroValue85
 t70:=Tryz.underlying121
 a70:=Tryz.isAgg121
 z70:=Tryz.sizeOf121
 v70:=Tryz.zeroValue121
 t72:=Tryz.underlying123
 a72:=Tryz.isAgg123
 z72:=Tryz.sizeOf123
 v72:=Tryz.zeroValue123
 t75:=Tryz.underlying126
 a75:=Tryz.isAgg126
 z75:=Tryz.sizeOf126
 v75:=Tryz.zeroValue126
 t76:=Tryz.underlying127
 a76:=Tryz.isAgg127
 z76:=Tryz.sizeOf127
 v76:=Tryz.zeroValue127
 t127:=Tryz.underlying156
 a127:=Tryz.isAgg156
 z127:=Tryz.sizeOf156
 v127:=Tryz.zeroValue156
 t164:=Tryz.underlying182
 a164:=Tryz.isAgg182
 z164:=Tryz.sizeOf182
 v164:=Tryz.zeroValue182 }
def layAtoi_ren:Go.Shelf.Ren:=⟨fun | 172=>205 | 244=>209 | 245=>210 | 247=>212 | 279=>213 | 280=>214 | 281=>215 | 282=>216 | 287=>218 | 316=>219 | 171=>206 | 205=>220 | 321=>225 | 322=>226 | 243=>211 | 246=>217 | 283=>221 | 284=>222 | 285=>223 | 286=>224 | 129=>116 | 317=>227 | 318=>228 | 319=>229 | 320=>230 | 337=>231 | 338=>232 | n=>n,fun | 9=>9 | 3=>3 | 75=>126 | 76=>127 | 4=>4 | 5=>5 | 167=>205 | 37=>85 | 0=>0 | 85=>206 | 2=>2 | 168=>208 | 53=>142 | 175=>212 | 46=>98 | 210=>215 | 127=>156 | 145=>224 | 143=>222 | 21=>21 | 171=>217 | 173=>219 | 212=>226 | 51=>140 | 20=>20 | 213=>227 | 232=>228 | 233=>229 | 80=>129 | n=>n,fun | 15=>3 | 16=>4 | 17=>5 | 18=>6 | 19=>7 | n=>n⟩
theorem Qlr:Go.Proofs.LaysC.n172 Tryz.prog layAtoi_ren:={
 mixed:=by kernel_rfl
 f129:=Tryz.func116.trans (Qt some (by kernel_rfl))
 f171:=Tryz.func206.trans (Qt some (by kernel_rfl))
 f172:=Tryz.func205.trans (Qt some (by kernel_rfl))
 f205:=Tryz.func220.trans (Qt some (by kernel_rfl))
 f243:=Tryz.func211.trans (Qt some (by kernel_rfl))
 f244:=Tryz.func209.trans (Qt some (by kernel_rfl))
 f245:=Tryz.func210.trans (Qt some (by kernel_rfl))
 f246:=Tryz.func217.trans (Qt some (by kernel_rfl))
 f247:=Tryz.func212.trans (Qt some (by kernel_rfl))
 f279:=Tryz.func213.trans (Qt some (by kernel_rfl))
 f280:=Tryz.func214.trans (Qt some (by kernel_rfl))
 f281:=Tryz.func215.trans (Qt some (by kernel_rfl))
 f282:=Tryz.func216.trans (Qt some (by kernel_rfl))
 f283:=Tryz.func221.trans (Qt some (by kernel_rfl))
 f284:=Tryz.func222.trans (Qt some (by kernel_rfl))
 f285:=Tryz.func223.trans (Qt some (by kernel_rfl))
 f286:=Tryz.func224.trans (Qt some (by kernel_rfl))
 f287:=Tryz.func218.trans (Qt some (by kernel_rfl))
 f316:=Tryz.func219.trans (Qt some (by kernel_rfl))
 f317:=Tryz.func227.trans (Qt some (by kernel_rfl))
 f318:=Tryz.func228.trans (Qt some (by kernel_rfl))
 f319:=Tryz.func229.trans (Qt some (by kernel_rfl))
 f320:=Tryz.func230.trans (Qt some (by kernel_rfl))
 f321:=Tryz.func225.trans (Qt some (by kernel_rfl))
 f322:=Tryz.func226.trans (Qt some (by kernel_rfl))
 f337:=Tryz.func231.trans (Qt some (by kernel_rfl))
 f338:=Tryz.func232.trans (Qt some (by kernel_rfl))
 t0:=Tryz.underlying0
 a0:=Tryz.isAgg0
 z0:=Tryz.sizeOf0
 v0:=Tryz.zeroValue0
 t2:=Tryz.underlying2
 a2:=Tryz.isAgg2
 z2:=Tryz.sizeOf2
 v2:=Tryz.zeroValue2
 t3:=Tryz.underlying3
 a3:=Tryz.isAgg3
 z3:=Tryz.sizeOf3
 v3:=Tryz.zeroValue3
 t4:=Tryz.underlying4
 a4:=Tryz.isAgg4
 z4:=Tryz.sizeOf4
 v4:=Tryz.zeroValue4
 t5:=Tryz.underlying5
 a5:=Tryz.isAgg5
 z5:=Tryz.sizeOf5
 v5:=Tryz.zeroValue5
 t9:=Tryz.underlying9
 a9:=Tryz.isAgg9
 z9:=Tryz.sizeOf9
 v9:=Tryz.zeroValue9
 t20:=Tryz.underlying20
 a20:=Tryz.isAgg20
 z20:=Tryz.sizeOf20
 v20:=Tryz.zeroValue20
 t21:=Tryz.underlying21
 a21:=Tryz.isAgg21
 z21:=Tryz.sizeOf21
 v21:=Tryz.zeroValue21
 t37:=Tryz.underlying85
 a37:=Tryz.isAgg85
 z37:=Tryz.sizeOf85
 v37:=Tryz.zeroValue85
 t46:=Tryz.underlying98
 a46:=Tryz.isAgg98
 z46:=Tryz.sizeOf98
 v46:=Tryz.zeroValue98
 t51:=Tryz.underlying140
 a51:=Tryz.isAgg140
 z51:=Tryz.sizeOf140
 v51:=Tryz.zeroValue140
 t53:=Tryz.underlying142
 a53:=Tryz.isAgg142
 z53:=Tryz.sizeOf142
 v53:=Tryz.zeroValue142
 t75:=Tryz.underlying126
 a75:=Tryz.isAgg126
 z75:=Tryz.sizeOf126
 v75:=Tryz.zeroValue126
 t76:=Tryz.underlying127
 a76:=Tryz.isAgg127
 z76:=Tryz.sizeOf127
 v76:=Tryz.zeroValue127
 t85:=Tryz.underlying206
 a85:=Tryz.isAgg206
 z85:=Tryz.sizeOf206
 v85:=Tryz.zeroValue206
 t127:=Tryz.underlying156
 a127:=Tryz.isAgg156
 z127:=Tryz.sizeOf156
 v127:=Tryz.zeroValue156
 t143:=Tryz.underlying222
 a143:=Tryz.isAgg222
 z143:=Tryz.sizeOf222
 v143:=Tryz.zeroValue222
 t145:=Tryz.underlying224
 a145:=Tryz.isAgg224
 z145:=Tryz.sizeOf224
 v145:=Tryz.zeroValue224
 t167:=Tryz.underlying205
 a167:=Tryz.isAgg205
 z167:=Tryz.sizeOf205
 v167:=Tryz.zeroValue205
 t168:=Tryz.underlying208
 a168:=Tryz.isAgg208
 z168:=Tryz.sizeOf208
 v168:=Tryz.zeroValue208
 t171:=Tryz.underlying217
 a171:=Tryz.isAgg217
 z171:=Tryz.sizeOf217
 v171:=Tryz.zeroValue217
 t173:=Tryz.underlying219
 a173:=Tryz.isAgg219
 z173:=Tryz.sizeOf219
 v173:=Tryz.zeroValue219
 t175:=Tryz.underlying212
 a175:=Tryz.isAgg212
 z175:=Tryz.sizeOf212
 v175:=Tryz.zeroValue212
 t210:=Tryz.underlying215
 a210:=Tryz.isAgg215
 z210:=Tryz.sizeOf215
 v210:=Tryz.zeroValue215
 t212:=Tryz.underlying226
 a212:=Tryz.isAgg226
 z212:=Tryz.sizeOf226
 v212:=Tryz.zeroValue226
 t213:=Tryz.underlying227
 a213:=Tryz.isAgg227
 z213:=Tryz.sizeOf227
 t232:=Tryz.underlying228
 a232:=Tryz.isAgg228
 z232:=Tryz.sizeOf228
 v232:=Tryz.zeroValue228
 t233:=Tryz.underlying229
 a233:=Tryz.isAgg229
 z233:=Tryz.sizeOf229
 v233:=Tryz.zeroValue229
 g15:=by kernel_rfl
 g16:=by kernel_rfl
 g17:=by kernel_rfl
 g18:=by kernel_rfl
 g19:=by kernel_rfl
 t80:=Tryz.underlying129
 a80:=Tryz.isAgg129
 z80:=Tryz.sizeOf129
 v80:=Tryz.zeroValue129
 i0:=by kernel_rfl
 i2:=by kernel_rfl
 i3:=by kernel_rfl
 i4:=by kernel_rfl
 i5:=by kernel_rfl
 i9:=by kernel_rfl
 i20:=by kernel_rfl
 i21:=by kernel_rfl
 i37:=by kernel_rfl
 i46:=by kernel_rfl
 i51:=by kernel_rfl
 i53:=by kernel_rfl
 i75:=by kernel_rfl
 i76:=by kernel_rfl
 i80:=by kernel_rfl
 i85:=by kernel_rfl
 i127:=by kernel_rfl
 i143:=by kernel_rfl
 i145:=by kernel_rfl
 i167:=by kernel_rfl
 i168:=by kernel_rfl
 i171:=by kernel_rfl
 i173:=by kernel_rfl
 i175:=by kernel_rfl
 i210:=by kernel_rfl
 i212:=by kernel_rfl
 i232:=by kernel_rfl
 i233:=by kernel_rfl
 m15:=by kernel_rfl
 m16:=by kernel_rfl
 m17:=by kernel_rfl
 m18:=by kernel_rfl
 m19:=by kernel_rfl
 c0:=by kernel_rfl
 c2:=by kernel_rfl
 c3:=by kernel_rfl
 c4:=by kernel_rfl
 c5:=by kernel_rfl
 c9:=by kernel_rfl
 c20:=by kernel_rfl
 c21:=by kernel_rfl
 c37:=by kernel_rfl
 c46:=by kernel_rfl
 c51:=by kernel_rfl
 c53:=by kernel_rfl
 c75:=by kernel_rfl
 c76:=by kernel_rfl
 c80:=by kernel_rfl
 c85:=by kernel_rfl
 c127:=by kernel_rfl
 c143:=by kernel_rfl
 c145:=by kernel_rfl
 c167:=by kernel_rfl
 c168:=by kernel_rfl
 c171:=by kernel_rfl
 c173:=by kernel_rfl
 c175:=by kernel_rfl
 c210:=by kernel_rfl
 c212:=by kernel_rfl
 c213:=by kernel_rfl
 c232:=by kernel_rfl
 c233:=by kernel_rfl }
def layItoa_ren:Go.Shelf.Ren:=⟨fun | 171=>206 | 243=>211 | 246=>217 | 283=>221 | 284=>222 | 285=>223 | 286=>224 | 129=>116 | 317=>227 | 318=>228 | 319=>229 | 320=>230 | 337=>231 | 338=>232 | n=>n,fun | 3=>3 | 9=>9 | 2=>2 | 4=>4 | 171=>217 | 0=>0 | 53=>142 | 37=>85 | 5=>5 | 173=>219 | 212=>226 | 51=>140 | 20=>20 | 213=>227 | 46=>98 | 232=>228 | 233=>229 | n=>n,fun | 17=>5 | 18=>6 | 19=>7 | n=>n⟩
theorem layItoa:Go.Proofs.LaysM.n171 Tryz.prog layItoa_ren:={
 mixed:=by kernel_rfl
 f129:=Tryz.func116.trans (Qt some (by kernel_rfl))
 f171:=Tryz.func206.trans (Qt some (by kernel_rfl))
 f243:=Tryz.func211.trans (Qt some (by kernel_rfl))
 f246:=Tryz.func217.trans (Qt some (by kernel_rfl))
 f283:=Tryz.func221.trans (Qt some (by kernel_rfl))
 f284:=Tryz.func222.trans (Qt some (by kernel_rfl))
 f285:=Tryz.func223.trans (Qt some (by kernel_rfl))
 f286:=Tryz.func224.trans (Qt some (by kernel_rfl))
 f317:=Tryz.func227.trans (Qt some (by kernel_rfl))
 f318:=Tryz.func228.trans (Qt some (by kernel_rfl))
 f319:=Tryz.func229.trans (Qt some (by kernel_rfl))
 f320:=Tryz.func230.trans (Qt some (by kernel_rfl))
 f337:=Tryz.func231.trans (Qt some (by kernel_rfl))
 f338:=Tryz.func232.trans (Qt some (by kernel_rfl))
 t0:=Tryz.underlying0
 a0:=Tryz.isAgg0
 z0:=Tryz.sizeOf0
 v0:=Tryz.zeroValue0
 t2:=Tryz.underlying2
 a2:=Tryz.isAgg2
 z2:=Tryz.sizeOf2
 v2:=Tryz.zeroValue2
 t3:=Tryz.underlying3
 a3:=Tryz.isAgg3
 z3:=Tryz.sizeOf3
 v3:=Tryz.zeroValue3
 t4:=Tryz.underlying4
 a4:=Tryz.isAgg4
 z4:=Tryz.sizeOf4
 v4:=Tryz.zeroValue4
 t5:=Tryz.underlying5
 a5:=Tryz.isAgg5
 z5:=Tryz.sizeOf5
 v5:=Tryz.zeroValue5
 t9:=Tryz.underlying9
 a9:=Tryz.isAgg9
 z9:=Tryz.sizeOf9
 v9:=Tryz.zeroValue9
 t20:=Tryz.underlying20
 a20:=Tryz.isAgg20
 z20:=Tryz.sizeOf20
 v20:=Tryz.zeroValue20
 t37:=Tryz.underlying85
 a37:=Tryz.isAgg85
 z37:=Tryz.sizeOf85
 v37:=Tryz.zeroValue85
 t46:=Tryz.underlying98
 a46:=Tryz.isAgg98
 z46:=Tryz.sizeOf98
 v46:=Tryz.zeroValue98
 t51:=Tryz.underlying140
 a51:=Tryz.isAgg140
 z51:=Tryz.sizeOf140
 v51:=Tryz.zeroValue140
 t53:=Tryz.underlying142
 a53:=Tryz.isAgg142
 z53:=Tryz.sizeOf142
 v53:=Tryz.zeroValue142
 t171:=Tryz.underlying217
 a171:=Tryz.isAgg217
 z171:=Tryz.sizeOf217
 v171:=Tryz.zeroValue217
 t173:=Tryz.underlying219
 a173:=Tryz.isAgg219
 z173:=Tryz.sizeOf219
 v173:=Tryz.zeroValue219
 t212:=Tryz.underlying226
 a212:=Tryz.isAgg226
 z212:=Tryz.sizeOf226
 v212:=Tryz.zeroValue226
 t213:=Tryz.underlying227
 a213:=Tryz.isAgg227
 z213:=Tryz.sizeOf227
 t232:=Tryz.underlying228
 a232:=Tryz.isAgg228
 z232:=Tryz.sizeOf228
 v232:=Tryz.zeroValue228
 t233:=Tryz.underlying229
 a233:=Tryz.isAgg229
 z233:=Tryz.sizeOf229
 v233:=Tryz.zeroValue229
 g17:=by kernel_rfl
 g18:=by kernel_rfl
 g19:=by kernel_rfl
 i0:=by kernel_rfl
 i2:=by kernel_rfl
 i3:=by kernel_rfl
 i4:=by kernel_rfl
 i5:=by kernel_rfl
 i9:=by kernel_rfl
 i20:=by kernel_rfl
 i37:=by kernel_rfl
 i46:=by kernel_rfl
 i51:=by kernel_rfl
 i53:=by kernel_rfl
 i171:=by kernel_rfl
 i173:=by kernel_rfl
 i212:=by kernel_rfl
 i232:=by kernel_rfl
 i233:=by kernel_rfl
 m17:=by kernel_rfl
 m18:=by kernel_rfl
 m19:=by kernel_rfl }
theorem Ubz:Builder.Extra Tryz.prog Qda where
 sizeBuilder:=by kernel_rfl
 liesBuilder:=by kernel_rfl
 t5:=Tryz.underlying5
 a5:=Tryz.isAgg5
 z5:=Tryz.sizeOf5
 v5:=Tryz.zeroValue5
 infoByte:=by kernel_rfl
 cellsByte:=by kernel_rfl
 sizeByte:=by kernel_rfl
 neB5:=by decide
end Go.Proofs.YthjaknclldmheaaGreatDoor
namespace Go.Proofs.YthjaknclldmheaaGreatDoor
open Go.RowKit
set_option maxRecDepth 100000
set_option linter.unusedVariables false
set_option linter.unusedSimpArgs false
open Go.Shelf
def decN (s:Za):Int:=match Lib.atoiAll s.data.toList with
 | .ok v=>bif decide (0<=v)&&(Lib.itoa v==s.data.toList) then v else -1
 | _=>-1
theorem GP.tab {w:World} (h:GP w):Lib.TabIs Tryz.prog w "internal/strconv.uint64pow10" .u64 Lib.pow10Tab:=by
 obtain ⟨T,fz,h1⟩:=h.2.2 _ (Qv _ (Qw.2 rfl))
 have hg:=layItoa.m17
 unfold Lib.TabIs World.var?
 rw [hg]
 simp only [Option.bind_some]
 exact (Qt (fun o=>match o with | some (Obj.cells cs _ _)=>some cs | _=>none) h1)
theorem GP.err1 {w:World} (h:GP w):∃ e,w.cell? ⟨layAtoi_ren.g 15,0,none⟩=some e/\(e=.nilIface\/∃ te pe,e=.iface te pe):=h.1 _ uu2
theorem GP.err2 {w:World} (h:GP w):∃ e,w.cell? ⟨layAtoi_ren.g 16,0,none⟩=some e/\(e=.nilIface\/∃ te pe,e=.iface te pe):=h.1 _ uu2
theorem Uhq {w w':World} (h:Lib.TabIs Tryz.prog w "internal/strconv.uint64pow10" .u64 Lib.pow10Tab) (hb:Below w.heap.size w w'):Lib.TabIs Tryz.prog w' "internal/strconv.uint64pow10" .u64 Lib.pow10Tab:=by
 unfold Lib.TabIs World.var? at h ⊢
 rw [layItoa.m17] at h ⊢
 simp only [Option.bind_some] at h ⊢
 have hlt:layItoa_ren.g 17<w.heap.size:=by
  rcases Gm (layItoa_ren.g 17) w.heap.size with h1 | h1
  ·exact h1
  ·rw [Array.getElem?_eq_none h1] at h; cases h
 rw [hb.block _ hlt]
 exact h
set_option maxHeartbeats 1000000 in
theorem Qpw (s:Za) (w:World) (v0:Int) (R:World->Prop) (hI:Calls Tryz.prog 205 #[.string s] w fun e w'=>(∃ N,e=.returned (.tuple #[.int .i64 v0,.iface (layAtoi_ren.t 168) (.pointer (some ⟨N,0,none⟩))]))/\Below w.heap.size w w') :
  Calls Tryz.prog 196 #[.string s] w fun e w'=>e=.returned (.int .i64 (-1))/\Below w.heap.size w w':=by
 go_enter Tryz.func196,Tryz.ntmps196
 go_wp2_with (go_at_call 205; refine hI.mono ?_; rintro e W1 ⟨⟨N,rfl⟩,hW⟩)
 go_ret
 exact ⟨rfl,hW⟩
set_option maxHeartbeats 1000000 in
theorem Uno (s:Za) (w:World) (v:Int) (hv:decide (v<0)=true) (hI:Calls Tryz.prog 205 #[.string s] w fun e w'=>e=.returned (.tuple #[.int .i64 v,.nilIface])/\Below w.heap.size w w') :
  Calls Tryz.prog 196 #[.string s] w fun e w'=>e=.returned (.int .i64 (-1))/\Below w.heap.size w w':=by
 go_enter Tryz.func196,Tryz.ntmps196
 go_wp2_with (go_at_call 205; refine hI.mono ?_; rintro e W1 ⟨rfl,hW⟩)
 go_ret
 exact ⟨rfl,hW⟩
set_option maxHeartbeats 1000000 in
theorem Ujs (s:Za) (w:World) (v:Int) (hv:decide (v<0)=false) (hv2:v<=9223372036854775807) (ht:Lib.TabIs Tryz.prog w "internal/strconv.uint64pow10" .u64 Lib.pow10Tab)
  (hI:Calls Tryz.prog 205 #[.string s] w fun e w'=>e=.returned (.tuple #[.int .i64 v,.nilIface])/\Below w.heap.size w w') :
  Calls Tryz.prog 196 #[.string s] w fun e w'=>e=.returned (.int .i64 (bif Lib.itoa v==s.data.toList then v else -1))/\Below w.heap.size w w':=by
 have hv0:0<=v:=by simpa using hv
 have hT:∀ W1,Below w.heap.size w W1->Calls Tryz.prog 206 #[.int .i64 v] W1 fun e w'=>e=.returned (.string ⟨(Lib.itoa v).toArray⟩)/\Below W1.heap.size W1 w':=fun W1 hW=>by
  refine (Any.strconv_Itoa layItoa v uu0 hv2 W1 (Uhq ht hW)).mono ?_
  rintro e w' ⟨rfl,k,os,rfl⟩
  exact ⟨rfl,⟨rfl,rfl,rfl,by simp [Go.Sort.grow],fun b hb=>by simp [Go.Sort.grow,Gi hb]⟩⟩
 have H:=Lib.hid hT
 clear hT
 have key:(bif Lib.itoa v==s.data.toList then v else -1)=(bif (!(Lib.itoa v==s.toList)) then -1 else v):=by
  have e:s.toList=s.data.toList:=Yd s
  rw [e]
  cases (Lib.itoa v==s.data.toList) <;> rfl
 rw [key]
 clear key
 go_enter Tryz.func196,Tryz.ntmps196
 go_wp2_with (first | (go_at_call 205; refine hI.mono ?_; rintro e W1 ⟨rfl,hW⟩) | (go_at_call 206; refine (H.out _ hW).mono ?_; rintro e W2 ⟨rfl,hW2⟩))
 all_goals
  rename_i hq
  rw [hq]
  go_ret
  exact ⟨rfl,hW.trans (hW2.mono hW.size)⟩
theorem dec_ok (s:Za) (hs:s.size<=281474976710656) (w:World) (hG:GP w) :
  Calls Tryz.prog 196 #[.string s] w fun e w'=>e=.returned (.int .i64 (decN s))/\Below w.heap.size w w':=by
 unfold decN
 cases h:Lib.atoiAll s.data.toList with
 | ok v =>
  obtain ⟨b0,b1⟩:=Lib.atoiAll_bounds h
  have hI:Calls Tryz.prog 205 #[.string s] w fun e w'=>e=.returned (.tuple #[.int .i64 v,.nilIface])/\Below w.heap.size w w':=by
   refine (Any.strconv_Atoi_ok Qlr s uu0 v h w).mono ?_
   rintro e w' ⟨rfl,hw⟩
   refine ⟨rfl,?_⟩
   rcases hw with rfl | ⟨t,rfl⟩
   ·exact Below.refl _ _
   ·exact Lib.bytesWorld_below _ _ _
  by_cases hv:v<0
  ·have e1:(bif decide (0<=v)&&(Lib.itoa v==s.data.toList) then v else -1)=-1:=by
    rw [Qk uu0]; rfl
   simp only [e1]
   exact Uno s w v (Qs hv) hI
  ·have e1:(bif decide (0<=v)&&(Lib.itoa v==s.data.toList) then v else -1)=(bif Lib.itoa v==s.data.toList then v else -1):=by
    rw [Qs uu0,Sc]
   simp only [e1]
   exact Ujs s w v (Qk hv) uu0 hG.tab hI
 | range =>
  obtain ⟨ev,h1,h2⟩:=hG.err2
  refine Qpw s w (Lib.atoiSat s.data.toList) (fun _=>True) ((Any.strconv_Atoi_range Qlr s hs h ev w h1 h2).mono ?_)
  rintro e w' ⟨N,rfl,_,_,hb⟩
  exact ⟨⟨N,rfl⟩,hb⟩
 | _ =>
  obtain ⟨ev,h1,h2⟩:=hG.err1
  refine Qpw s w 0 (fun _=>True) ((Any.strconv_Atoi_syntax Qlr s hs h ev w h1 h2).mono ?_)
  rintro e w' ⟨N,rfl,_,_,hb⟩
  exact ⟨⟨N,rfl⟩,hb⟩
theorem Qrq (s:Za):Spec.ok Tryz.prog 196 ⟨[.r (.c (.v (.string s)))],.v (.int .i64 (decN s)),s.size<=281474976710656⟩ false:=by
 intro hs S w vs fp hS hG hA
 obtain ⟨u,us,f,g,rfl,⟨⟨rfl,_⟩,rfl⟩,⟨rfl,rfl⟩,rfl,_⟩:=hA
 refine (dec_ok s hs w hG.1).mono fun e w' ⟨h1,h2⟩=>?_
 exact ⟨_,[],[],h1,⟨rfl,rfl,rfl⟩,⟨_,_,[],[],rfl,rfl,rfl,rfl⟩,Q2,fun b hb=>by simp at hb,⟨h2.os,h2.tape,h2.output,h2.size,fun k hk _=>h2.block k hk,Qy _⟩⟩
end Go.Proofs.YthjaknclldmheaaGreatDoor
namespace Go.Proofs.YthjaknclldmheaaGreatDoor
theorem uu1{a:Prop}(h:a:=by kernel_rfl):a:=h
theorem uu3{a:Prop}(h:a:=by first | omega | (simp only [lens,ib] at*<;> omega)):a:=h
theorem uu4{a:Prop}(h:a:=by (have hz:=Vj line; have hz0:=hz (Int.toNat 0); have hz1:=hz (Int.toNat 1); have hz2:=hz (Int.toNat 2); have hs:Ze.size=1:=rfl; (try simp only [Qaq] at *); omega)):a:=h
theorem uu5{a:Prop}(h:a:=by refine ⟨?_,?_⟩ <;> omega):a:=h
theorem uu7{a:Prop}(h:a:=by first | omega | assumption | exact hpre2.1 | exact hpre2 | exact hpre2.2.1 | exact hpre2.2 | exact hpre2.2.2.1 | exact hpre2.2.2 | exact hpre2.2.2.2.1 | exact hpre2.2.2.2 | exact hpre2.2.2.2.2.1 | exact hpre2.2.2.2.2 | exact hpre2.2.2.2.2.2.1 | exact hpre2.2.2.2.2.2):a:=h
theorem uu8{a:Prop}(h:a:=by first | assumption | exact gv3 (by omega) (by omega) (by omega) | exact gv5 (by omega) (by omega) (by omega) | exact gv7 (by omega) (by omega) (by omega) | exact gv8 (by omega) (by omega) (by omega) | exact gv9 (by omega) (by omega) (by omega) | exact gv10 (by omega) (by omega) (by omega) | exact gv11 (by omega) (by omega) (by omega) | exact gv13 (by omega) (by omega) (by omega) | exact gv14 (by omega) (by omega) (by omega) | exact gv16 (by omega) (by omega) (by omega) | (intros; exact trivial) | (intros; exact Qy _)):a:=h
theorem uu9{a:Prop}(h:a:=by (omega)):a:=h
theorem uu10{a:Prop}(h:a:=by exact hpre0 _):a:=h
theorem uu11{a:Prop}(h:a:=by (exact kix0 _ (by assumption))):a:=h
theorem uu12{a:Prop}(h:a:=by first | omega | assumption):a:=h
theorem uu13{a:Prop}(h:a:=by (exact kix1 _ (by assumption))):a:=h
theorem uu14{a:Prop}(h:a:=by (first | omega | (have h9:=nat_at lines (by first | omega | (simp only [lens,ib] at*<;> omega)) (Int.toNat 0) (by first | omega | (simp only [lens,ib] at*<;> omega)); unfold natP at h9; omega) | (have h9:=Qyv lines (by first | omega | (simp only [lens,ib] at*<;> omega)) (Int.toNat v64) (by first | omega | (simp only [lens,ib] at*<;> omega)); unfold Hl at h9; omega) | (have h9:=Uda lines (by first | omega | (simp only [lens,ib] at*<;> omega)) (Int.toNat v64) (Int.toNat v89) (by first | omega | (simp only [lens,ib] at*<;> omega)); unfold Hl at h9; omega))):a:=h
theorem uu15{a:Prop}(h:a:=by first | omega | exact (Vi aS (by omega)).1 | exact (Vi aS (by omega)).2.1 | exact (Vi aS (by omega)).2.2.1 | exact (Vi aS (by omega)).2.2.2.1 | exact (Vi aS (by omega)).2.2.2.2.1 | exact (Vi aS (by omega)).2.2.2.2.2.1 | exact (Vi aS (by omega)).2.2.2.2.2.2.1 | exact (Vi aS (by omega)).2.2.2.2.2.2.2.1 | exact (Vi aS (by omega)).2.2.2.2.2.2.2.2):a:=h
theorem uu16{a:Prop}(h:a:=by simp):a:=h
theorem uu17{a:Prop}(h:a:=by refine ⟨?_,?_⟩ <;> first | omega | (simp only [lens,ib] at*<;> omega)):a:=h
theorem uu18{a:Prop}(h:a:=by first | omega | assumption | exact hpre0 _ | exact hpre1 _ | exact hpre2 _ | exact hpre3 _ | exact hpre4 _):a:=h
theorem uu19{a:Prop}(h:a:=by exact at_sz all (by assumption) _ _):a:=h
theorem uu20{a:Prop}(h:a:=by refine ⟨?_,?_,?_⟩ <;> first | omega | (simp only [lens,ib] at*<;> omega)):a:=h
theorem uu21{a:Prop}(h:a:=by (try simp only [lens]); omega):a:=h
theorem uu22{a:Prop}(h:a:=by first | assumption | exact hpre1 _ | exact fun k _=>hpre1 k | exact hpre3 _ | exact fun k _=>hpre3 k | exact hpre5 _ | exact fun k _=>hpre5 k | exact hpre6 _ | exact fun k _=>hpre6 k | exact hpre7 _ | exact fun k _=>hpre7 k | exact hpre7 _ _ | exact hpre8 _ | exact fun k _=>hpre8 k | exact hpre9 _ | exact fun k _=>hpre9 k | exact hpre9 _ _ | exact hpre11 _ | exact fun k _=>hpre11 k | exact hpre12 _ | exact fun k _=>hpre12 k | exact hpre12 _ _ | exact hpre14 _ | exact fun k _=>hpre14 k | (intros; exact trivial) | (intros; exact Qy _)):a:=h
theorem uu23{a:Prop}(h:a:=by rw [h]; rfl):a:=h
theorem uu24{a:Prop}(h:a:=by exact Lx lines _ (by first | omega | (simp only [lens,ib] at*<;> omega)) _ _):a:=h
theorem uu25{a:Prop}(h:a:=by refine ⟨?_,?_,?_,?_⟩ <;> omega):a:=h
theorem uu26{a:Prop}(h:a:=by first | assumption | exact hpre1 _ | exact fun k _=>hpre1 k | exact hpre3 _ | exact fun k _=>hpre3 k | exact hpre5 _ | exact fun k _=>hpre5 k | exact hpre6 _ | exact fun k _=>hpre6 k | exact hpre7 _ | exact fun k _=>hpre7 k | exact hpre7 _ _ | exact hpre8 _ | exact fun k _=>hpre8 k | exact hpre9 _ | exact fun k _=>hpre9 k | exact hpre9 _ _ | (intros; exact trivial) | (intros; exact Qy _)):a:=h
theorem uu27{a:Prop}(h:a:=by first | assumption | exact hpre1 _ | exact fun k _=>hpre1 k | (intros; exact trivial) | (intros; exact Qy _)):a:=h
theorem uu28{a:Prop}(h:a:=by (exact Ubn _ (by assumption) (by assumption))):a:=h
theorem uu29{a:Prop}(h:a:=by (exact Ufn _ (by assumption) (by assumption))):a:=h
theorem uu30{a:Prop}(h:a:=by refine ⟨?_,?_,?_,?_,?_⟩ <;> omega):a:=h
theorem uu31{a:Prop}(h:a:=by first | omega | assumption | exact (hpre2 _) | exact hpre2):a:=h
theorem uu32{a:Prop}(h:a:=by simp only [Q4]; omega):a:=h
theorem uu33{a:Prop}(h:a:=by (simp only [lens,ib] at*<;> omega)):a:=h
theorem uu34{a:Prop}(h:a:=by first | assumption | exact (Qbs (by assumption)).1 | exact (Qbs (by assumption)).2.1 | exact (Qbs (by assumption)).2.2):a:=h
theorem uu35{a:Prop}(h:a:=by first | assumption | exact (Qgt (by assumption)).1 | exact (Qgt (by assumption)).2.1 | exact (Qgt (by assumption)).2.2):a:=h
theorem uu36{a:Prop}(h:a:=by first | exact Qlc _ _ (by omega) _ | omega):a:=h
theorem uu37{a:Prop}(h:a:=by exact Qlc _ _ (by omega) _):a:=h
theorem uu38{a:Prop}(h:a:=by first | decide | (have hz:=hpre1 v12.toNat; omega)):a:=h
theorem uu39{a:Prop}(h:a:=by refine ⟨?_,?_,?_⟩ <;> omega):a:=h
theorem uu40{a:Prop}(h:a:=by first | assumption | exact hpre2 _ | exact fun k _=>hpre2 k | (intros; exact trivial) | (intros; exact Qy _)):a:=h
theorem uu41{a:Prop}(h:a:=by first | omega | exact (Qbx lines _).1 | exact (Qbx lines _).2 | exact (Qes lines _ _).1 | exact (Qes lines _ _).2):a:=h
theorem uu42{a:Prop}(h:a:=by first | exact (Nf _).1 | exact (Nf _).2.1):a:=h
theorem uu43{a:Prop}(h:a:=by first | assumption | omega):a:=h
theorem uu44{a:Prop}(h:a:=by first | exact hpre0 _ | exact hpre1 _):a:=h
theorem uu45{a:Prop}(h:a:=by first | omega | (have h9:=(hpre2 _); omega) | (have h9:=hpre2; omega)):a:=h
theorem uu46{a:Prop}(h:a:=by refine ⟨?_,?_,?_,?_⟩ <;> first | omega | (simp only [lens,ib] at*<;> omega)):a:=h
theorem uu47{a:Prop}(h:a:=by simp only [Ri,Q4,Se]; omega):a:=h
theorem uu48{a:Prop}(h:a:=by have hz:=(by assumption:∀ k:Nat,(list.getD k default).size<=1048576) i40.toNat; (try simp only [Qaq,sz0] at *); omega):a:=h
theorem uu49{a:Prop}(h:a:=by first | assumption | omega | decide):a:=h
theorem uu50{a:Prop}(h:a:=by exact Ukz lines (by assumption)):a:=h
theorem uu51{a:Prop}(h:a:=by first | omega | (have hz:=(by assumption:∀ k:Nat,(a.getD k default).size<=9223372036854775807) i40.toNat; omega)):a:=h
theorem uu52{a:Prop}(h:a:=by first | omega | exact hpre1 _ | exact hpre2 _ | exact hpre3 _ | exact hpre3 _ _ | exact hpre4 _ | exact hpre5 _ | exact hpre5 _ _ | (intros; exact trivial) | (intros; exact Qy _)):a:=h
theorem uu53{a:Prop}(h:a:=by refine ⟨?_,?_,?_,?_,?_,?_⟩ <;> first | omega | (simp only [lens,ib] at*<;> omega) | (intro k hk hk2; first | exact (by assumption:∀ k:Nat,k<s.length->Qdel (s.getD k default)) k hk2 | exact (by assumption:∀ k:Nat,j1<=(k:Int)->k<xs.length->Qdel (xs.getD k default)) k (by first | omega | (simp only [lens,ib] at*<;> omega)) hk2 | (rw [Wa _ _ _ _ (by first | omega | (simp only [lens,ib] at*<;> omega))]; exact (by assumption:∀ k:Nat,j1<=(k:Int)->k<xs.length->Qdel (xs.getD k default)) k (by first | omega | (simp only [lens,ib] at*<;> omega)) (by simpa using hk2)))):a:=h
theorem uu54{a:Prop}(h:a:=by refine ⟨?_,?_,?_,?_,?_,?_,?_⟩ <;> first | omega | (simp only [lens,ib] at*<;> omega)):a:=h
theorem uu55{a:Prop}(h:a:=by (rcases Rn ((w1.length:Int)=3) with h3 | h3; omega; (rcases Rn ((w1.length:Int)=5) with h5 | h5; omega; (have e3:((w1.length:Int)==3)=false:=Qz.2 h3; have e5:((w1.length:Int)==5)=false:=Qz.2 h5; simp [e3,e5] at *)))):a:=h
theorem uu56{a:Prop}(h:a:=by refine ⟨?_,?_,?_⟩ <;> (have hz:=(by assumption:∀ k:Nat,(list.getD k default).size<=1048576) i40.toNat; (try simp only [Qaq,sz0] at *); omega)):a:=h
theorem uu57{a:Prop}(h:a:=by first | assumption | exact gv2 | (intros; exact trivial) | (intros; exact Qy _)):a:=h
theorem uu58{a:Prop}(h:a:=by first | omega | exact Qfe _ _ (by assumption) (by omega) (by decide)):a:=h
theorem uu59{a:Prop}(h:a:=by first | assumption | exact hpre0 _ | exact fun k _=>hpre0 k | (intros; exact trivial) | (intros; exact Qy _)):a:=h
theorem uu60{a:Prop}(h:a:=by (first | omega | (have h9:=Uml lines (by first | omega | (simp only [lens,ib] at*<;> omega)) (Int.toNat v12) (by first | omega | (simp only [lens,ib] at*<;> omega)); unfold Xy at h9; omega))):a:=h
theorem uu61{a:Prop}(h:a:=by first | omega | (simp only [Q4,Se] at *; omega)):a:=h
theorem uu62{a:Prop}(h:a:=by first | omega | assumption | (have h9:=Qqe lines (by omega); omega)):a:=h
theorem uu63{a:Prop}(h:a:=by first | assumption | exact hpre2 _ | exact fun k _=>hpre2 k | exact hpre4 _ | exact fun k _=>hpre4 k | (intros; exact trivial) | (intros; exact Qy _)):a:=h
theorem uu64{a:Prop}(h:a:=by first | assumption | exact hpre1 _ | exact fun k _=>hpre1 k | exact hpre2 _ | exact fun k _=>hpre2 k | exact hpre3 _ | exact fun k _=>hpre3 k | exact hpre3 _ _ | exact hpre4 _ | exact fun k _=>hpre4 k | exact hpre5 _ | exact fun k _=>hpre5 k | exact hpre5 _ _ | (intros; exact trivial) | (intros; exact Qy _)):a:=h
theorem ai {a b:Prop} (h:a) (k:b):a/\b:=⟨h,k⟩
theorem ir {d:Dat}:Imp d d := Imp.refl d
abbrev vI (x:Int):Value:=.int .i64 x
open Go.RowKit
set_option maxRecDepth 100000
set_option linter.unusedVariables false
set_option linter.unusedSimpArgs false
theorem mixed:Tryz.prog.follows .mixedOrders=true:=Checked.mixed Tryz.checked
def F34 (s:Za) (sep:Za):Za×Za×Bool :=
 cut3 s sep
def S34 (s:Za) (sep:Za):Spec:=⟨[.r (.c (.v (.string s))),.r (.c (.v (.string sep)))],.tu [.v (.string (F34 s sep).1),.v (.string (F34 s sep).2.1),.v (.bool (F34 s sep).2.2)],s.size<=4294967280⟩
theorem ok34 (s:Za) (sep:Za):(S34 s sep).ok Tryz.prog 34 :=
 cut_ok layCut uu2 s sep
theorem g34_0 (s:Za) (sep:Za):(F34 s sep).1.size<=(s.size:Int):=by
 exact Qep s sep
theorem g34_1 (s:Za) (sep:Za):(F34 s sep).2.1.size<=(s.size:Int):=by
 exact Ufc s sep
def F196 (text:Za):Int :=
 decN text
def S196 (text:Za):Spec:=⟨[.r (.c (.v (.string text)))],.v (vI (F196 text)),text.size<=281474976710656⟩
theorem ok196 (text:Za):(S196 text).ok Tryz.prog 196 false :=
 Qrq text
def F84 (n:Int) (low:Int) (high:Int):Bool :=
 (bif decide (low<=n) then decide (n<=high) else false)
def S84 (R:Bool) (n:Int) (low:Int) (high:Int):Spec:=⟨[.r (.c (.v (vI n))),.r (.c (.v (vI low))),.r (.c (.v (vI high)))],.v (.bool R),True⟩
theorem ok84 (n:Int) (low:Int) (high:Int):(S84 (F84 n low high) n low high).ok Tryz.prog 84 :=
 Ue mixed (fn:=Tryz.f84) (ct:=.seq .no (.seq .no .no)) Tryz.func84 (fun (_:True)=>fiB (bif decide (low<=n) then decide (n<=high) else false) (F84 n low high) rfl) uu1
theorem as84 (n:Int) (low:Int) (high:Int):F84 n low high=(decide (low<=n/\n<=high)):=by
 simp only [F84,Sp,bandd]
theorem oa84 (n:Int) (low:Int) (high:Int):(S84 (decide (low<=n/\n<=high)) n low high).ok Tryz.prog 84:=by
 intro hp; have h:=ok84 n low high hp; rw [as84 n low high] at h; exact h
theorem kc34 (s:Za) (sep:Za) {K_:Prop} (p0_:s.size<=4294967280) (k_:((F34 s sep).1.size<=(s.size:Int))->((F34 s sep).2.1.size<=(s.size:Int))->K_):(s.size<=4294967280)/\(Imp (.v (.string s)) (.v (.string s)))/\(Imp (.v (.string sep)) (.v (.string sep)))/\K_:=⟨p0_,Imp.refl _,Imp.refl _,k_ (g34_0 s sep) (g34_1 s sep)⟩
theorem Qzb (text:Za) {K_:Prop} (p0_:text.size<=281474976710656) (k_:K_):(text.size<=281474976710656)/\(Imp (.v (.string text)) (.v (.string text)))/\K_:=⟨p0_,Imp.refl _,k_⟩
abbrev Uil (s:Za) (sep:Za):Hint false Tryz.prog:=.call 34 (S34 s sep) ((ok34 s sep).to false) none
abbrev Qxu (text:Za):Hint false Tryz.prog:=.call 196 (S196 text) (ok196 text) none
theorem Qis (n:Int) (low:Int) (high:Int) {K_:Prop} (k_:K_):(True)/\(Imp (.v (vI n)) (.v (vI n)))/\(Imp (.v (vI low)) (.v (vI low)))/\(Imp (.v (vI high)) (.v (vI high)))/\K_:=⟨trivial,Imp.refl _,Imp.refl _,Imp.refl _,k_⟩
theorem Mm {K_:Prop} (c_ b_:Bool) (n:Int) (low:Int) (high:Int) (k_:K_):(c_=b_->True)/\(c_=b_->Imp (.v (vI n)) (.v (vI n)))/\(c_=b_->Imp (.v (vI low)) (.v (vI low)))/\(c_=b_->Imp (.v (vI high)) (.v (vI high)))/\K_:=⟨fun _=>trivial,fun _=>Imp.refl _,fun _=>Imp.refl _,fun _=>Imp.refl _,k_⟩
abbrev Vc (n:Int) (low:Int) (high:Int):Hint false Tryz.prog:=.call 84 (S84 (decide (low<=n/\n<=high)) n low high) ((oa84 n low high).to false) none
abbrev w0_:Za:=⟨#[46]⟩
def F165 (text:Za):Int :=
 bif (bif (bif (!(F34 text ⟨#[46]⟩).2.2) then true else (!(decide (0<=(F196 (F34 text ⟨#[46]⟩).1)/\(F196 (F34 text ⟨#[46]⟩).1)<=255)))) then true else (!(decide (0<=(F196 (F34 text ⟨#[46]⟩).2.1)/\(F196 (F34 text ⟨#[46]⟩).2.1)<=255)))) then (-1) else (IntKind.i64.wrap ((IntKind.i64.wrap (256*(F196 (F34 text ⟨#[46]⟩).1)))+(F196 (F34 text ⟨#[46]⟩).2.1)))
def S165 (text:Za):Spec:=⟨[.r (.c (.v (.string text)))],.v (vI (F165 text)),text.size<=1048576⟩
theorem ok165 (text:Za):(S165 text).ok Tryz.prog 165 false :=
 Ue mixed (fn:=Tryz.f165) (ct:=.seq .no (.seq (.reg [(1,Uil text w0_)]) (.seq (.reg [(1,Qxu (F34 text w0_).1),(3,Qxu (F34 text w0_).2.1)]) (.seq (.seq (.reg [(4,Vc (F196 (F34 text w0_).1) 0 255),(9,Vc (F196 (F34 text w0_).2.1) 0 255)]) (.cond (.seq .no .no) .no)) (.seq .no .no))))) Tryz.func165 (fun (hpre0:text.size<=1048576)=>kc34 text w0_ uu0 (fun gv1 gv2=>Qzb (F34 text w0_).1 uu0 (Qzb (F34 text w0_).2.1 uu0 (Mm (!(F34 text w0_).2.2) false (F196 (F34 text w0_).1) 0 255 (Mm (bif (!(F34 text w0_).2.2) then true else (!(decide (0<=(F196 (F34 text w0_).1)/\(F196 (F34 text w0_).1)<=255)))) false (F196 (F34 text w0_).2.1) 0 255 (ifb (bif (bif (!(F34 text w0_).2.2) then true else (!(decide (0<=(F196 (F34 text w0_).1)/\(F196 (F34 text w0_).1)<=255)))) then true else (!(decide (0<=(F196 (F34 text w0_).2.1)/\(F196 (F34 text w0_).2.1)<=255)))) (fun h5=>fiI (-1) (F165 text) (condT h5 rfl)) (fun h5=>have _:(F34 text w0_).2.2=true:=(Uw (orF1 (orF1 h5))); have _:0<=(F196 (F34 text w0_).1)/\(F196 (F34 text w0_).1)<=255:=Qb (Uw (orF2 (orF1 h5))); have _:0<=(F196 (F34 text w0_).2.1)/\(F196 (F34 text w0_).2.1)<=255:=Qb (Uw (orF2 h5)); fiI (IntKind.i64.wrap ((IntKind.i64.wrap (256*(F196 (F34 text w0_).1)))+(F196 (F34 text w0_).2.1))) (F165 text) (condF h5 rfl)))))))) uu1
structure Ub where
 Addr:Int
 Len:Int
 deriving DecidableEq,Inhabited
def Ui (x:Ub):List Dat:=[.v (vI x.Addr),.v (vI x.Len)]
def F207 (p:Ub):Int :=
 (IntKind.i64.wrap (1*2 ^ (min (16-p.Len).toNat IntKind.i64.bits)))
def S207 (p:Ub):Spec:=⟨[.r (.g (Ui p))],.v (vI (F207 p)),0<=p.Len/\p.Len<=16⟩
theorem ok207 (p:Ub):(S207 p).ok Tryz.prog 207 :=
 Ue mixed (fn:=Tryz.f207) (ct:=.seq .no (.seq (.reg [(2,.bnd)]) .no)) Tryz.func207 (fun (hp:0<=p.Len/\p.Len<=16)=>have hpre0:=hp.1; have hpre1:=hp.2; ai (iok (16-p.Len) uu0) (ai (uu0:0<=(16-p.Len)) (fiI (IntKind.i64.wrap (1*2 ^ (min (16-p.Len).toNat IntKind.i64.bits))) (F207 p) rfl))) uu1
theorem Qqu (p:Ub):0<=p.Len->p.Len<=16->1<=(F207 p)/\(F207 p)<=65536:=by
 obtain ⟨a,l⟩:=p; intro h1 h2; simp only at h1 h2; have h3:l=0\/l=1\/l=2\/l=3\/l=4\/l=5\/l=6\/l=7\/l=8\/l=9\/l=10\/l=11\/l=12\/l=13\/l=14\/l=15\/l=16:=by omega
 rcases h3 with rfl | rfl | rfl | rfl | rfl | rfl | rfl | rfl | rfl | rfl | rfl | rfl | rfl | rfl | rfl | rfl | rfl <;> exact Qb rfl
abbrev Qzl (n:Int) (low:Int) (high:Int):Hint true Tryz.prog:=.call 84 (S84 (decide (low<=n/\n<=high)) n low high) (oa84 n low high) none
theorem kc207 (p:Ub) {K_:Prop} (p0_:0<=p.Len) (p1_:p.Len<=16) (q0_:0<=p.Len) (q1_:p.Len<=16) (k_:(1<=(F207 p)/\(F207 p)<=65536)->(0<=p.Len->p.Len<=16->1<=(F207 p)/\(F207 p)<=65536)->K_):(0<=p.Len/\p.Len<=16)/\(Imps (Ui p) (Ui p))/\K_:=⟨⟨p0_,p1_⟩,Imps.refl _,k_ (Qqu p q0_ q1_) (Qqu p)⟩
theorem kg207 {K_:Prop} (c_ b_:Bool) (p:Ub) (p_:c_=b_->0<=p.Len/\p.Len<=16) (k_:K_):(c_=b_->0<=p.Len/\p.Len<=16)/\(c_=b_->Imps (Ui p) (Ui p))/\K_:=⟨p_,fun _=>Imps.refl _,k_⟩
abbrev kh207 (p:Ub):Hint true Tryz.prog:=.call 207 (S207 p) (ok207 p) none
def F199 (p:Ub):Bool :=
 (bif (bif (decide (0<=p.Len/\p.Len<=16)) then (decide (0<=p.Addr/\p.Addr<=65535)) else false) then ((p.Addr.tmod (F207 p))==0) else false)
def S199 (p:Ub):Spec:=⟨[.r (.g (Ui p))],.v (.bool (F199 p)),True⟩
theorem ok199 (p:Ub):(S199 p).ok Tryz.prog 199 :=
 Ue mixed (fn:=Tryz.f199) (ct:=.seq .no (.seq (.reg [(2,Qzl p.Len 0 16),(6,Qzl p.Addr 0 65535),(12,kh207 p)]) .no)) Tryz.func199 (fun (_:True)=>Qis p.Len 0 16 (Mm (decide (0<=p.Len/\p.Len<=16)) true p.Addr 0 65535 (kg207 (bif (decide (0<=p.Len/\p.Len<=16)) then (decide (0<=p.Addr/\p.Addr<=65535)) else false) true p (fun k4=>have _:=Qb (Uc k4); have _:=Qb (Ut k4); ⟨uu0,uu0⟩) (ai (fun k5:(bif (decide (0<=p.Len/\p.Len<=16)) then (decide (0<=p.Addr/\p.Addr<=65535)) else false)=true=>have _:=Qb (Uc k5); have _:=Qb (Ut k5); (by have h9:=Qqu p (by omega) (by omega); omega:¬ (F207 p)=0)) (fiB (bif (bif (decide (0<=p.Len/\p.Len<=16)) then (decide (0<=p.Addr/\p.Addr<=65535)) else false) then ((p.Addr.tmod (F207 p))==0) else false) (F199 p) rfl))))) uu1
theorem Qpz (text:Za) {K_:Prop} (p0_:text.size<=1048576) (k_:K_):(text.size<=1048576)/\(Imp (.v (.string text)) (.v (.string text)))/\K_:=⟨p0_,Imp.refl _,k_⟩
abbrev Qoo (text:Za):Hint false Tryz.prog:=.call 165 (S165 text) (ok165 text) none
abbrev w1_:Za:=⟨#[47]⟩
def F169 (text:Za):Ub×Bool :=
 bif (bif (!(F34 text ⟨#[47]⟩).2.2) then true else (!(F199 ⟨(F165 (F34 text ⟨#[47]⟩).1),(F196 (F34 text ⟨#[47]⟩).2.1)⟩))) then ((⟨0,0⟩:Ub),false) else ((⟨(F165 (F34 text ⟨#[47]⟩).1),(F196 (F34 text ⟨#[47]⟩).2.1)⟩:Ub),true)
theorem fi169 (text:Za) (r:Ub×Bool) (hF:r=(F169 text)):((.int .i64 r.1.Addr:Value)=.int .i64 (F169 text).1.Addr)/\((.int .i64 r.1.Len:Value)=.int .i64 (F169 text).1.Len)/\((.bool r.2:Value)=.bool (F169 text).2)/\True:=by cases hF; exact ⟨rfl,rfl,rfl,trivial⟩
def S169 (text:Za):Spec:=⟨[.r (.c (.v (.string text)))],.tu [.ag [.v (vI (F169 text).1.Addr),.v (vI (F169 text).1.Len)],.v (.bool (F169 text).2)],text.size<=1048576⟩
theorem ok169 (text:Za):(S169 text).ok Tryz.prog 169 false :=
 Ue mixed (fn:=Tryz.f169) (ct:=.seq .no (.seq (.reg [(1,Uil text w1_)]) (.seq (.reg [(1,Qoo (F34 text w1_).1),(3,Qxu (F34 text w1_).2.1)]) (.seq (.seq (.reg [(4,.call 199 (S199 (⟨(F165 (F34 text w1_).1),(F196 (F34 text w1_).2.1)⟩:Ub)) ((ok199 (⟨(F165 (F34 text w1_).1),(F196 (F34 text w1_).2.1)⟩:Ub)).to false) none)]) (.cond (.seq .no .no) .no)) (.seq .no .no))))) Tryz.func169 (fun (hpre0:text.size<=1048576)=>kc34 text w1_ uu0 (fun gv1 gv2=>Qpz (F34 text w1_).1 uu0 (Qzb (F34 text w1_).2.1 uu0 (ai (fun k3:(!(F34 text w1_).2.2)=false=>have _:(F34 text w1_).2.2=true:=(Uw k3); trivial) (ai (fun k4:(!(F34 text w1_).2.2)=false=>have _:(F34 text w1_).2.2=true:=(Uw k4); (Imps.refl (Ui (⟨(F165 (F34 text w1_).1),(F196 (F34 text w1_).2.1)⟩:Ub)))) (ifb (bif (!(F34 text w1_).2.2) then true else (!(F199 ⟨(F165 (F34 text w1_).1),(F196 (F34 text w1_).2.1)⟩))) (fun h5=>fi169 text ((⟨0,0⟩:Ub),false) (condT h5 rfl)) (fun h5=>have _:(F34 text w1_).2.2=true:=(Uw (orF1 h5)); fi169 text ((⟨(F165 (F34 text w1_).1),(F196 (F34 text w1_).2.1)⟩:Ub),true) (condF h5 rfl)))))))) uu1
def F70 (s:Za) (sep:Za):List Za :=
 Uv s sep
def S70 (s:Za) (sep:Za):Spec:=⟨[.r (.c (.v (.string s))),.r (.c (.v (.string sep)))],.ow (.l 1 eStr (F70 s sep)),s.size<=4294967280/\1<=sep.size⟩
theorem ok70 (s:Za) (sep:Za):(S70 s sep).ok Tryz.prog 70 :=
 Ubf Ugz uu1 uu2 s sep
def Qby (s:List Za) (v1:Za):Int->Lp Int Int:=fun v8 =>
 bif (decide (v8<(s.length:Int))) then (bif (v1.toList==(s.getD v8.toNat default).toList) then (.ret v8) else (.next (v8+1))) else (.done v8)
def F61 (s:List Za) (v1:Za):Int :=
 (runL (Qby s v1) (((s.length:Int)-0).toNat+1) 0).fin (fun r=>r) (fun v8=>(-1))
abbrev Qhj (s:List Za):Nat×Int:=((((s.length:Int)-0).toNat+1),0)
abbrev Qsr (s:List Za) (m39:Nat) (v8:Int):Prop:=Int.toNat ((s.length:Int)-v8)<m39/\(0:Int)<=v8
abbrev Ubb (s:List Za) (v1:Za):Lp Int Int:=LpX (Qby s v1) (Qhj s)
abbrev Qdv (s:List Za) (v1:Za) (i:Nat×Int):Prop:=LpJ (Qby s v1) (Qhj s) i (Qsr s i.1 i.2)
abbrev Udw (s:List Za) (v1:Za) (i:Nat×Int) (m39:Nat) (v8:Int):Prop:=LpH (Qby s v1) (Qhj s) i m39 v8 (Qsr s (m39+1) v8)
abbrev Ueu (s:List Za) (v1:Za) (v8:Int) (v8_:Int) (K39:Prop):Prop:=(Rf (.string v1))/\(Rf (.int .i64 (s.length:Int)))/\((.int .i64 v8:Value)=.int .i64 v8_)/\(Im (.l 1 eStr s))/\K39
theorem un61_0 (s:List Za) (v1:Za) (i:Nat×Int) (h:Qdv s v1 i):Udw s v1 i (i.1-1) i.2:=⟨hd1 h.1 h.2.1,hd3 h.2.1,hd2 h.2.1,h.2.2⟩
theorem bk61_0 (s:List Za) (v1:Za) (i:Nat×Int) (m39:Nat) (v8:Int) (hl:m39<i.1) (e:runL (Qby s v1) m39 v8=Ubb s v1) (h:Qsr s m39 v8):∃ j:Nat×Int,Ueu s v1 v8 j.2 (Qdv s v1 j/\j.1<i.1):=⟨(m39,v8),rfl,rfl,rfl,Imp.refl _,⟨e,h⟩,hl⟩
theorem en61_0 (s:List Za) (v1:Za) (h:(0:Int)<=0):Ueu s v1 0 0 (Qdv s v1 (Qhj s)):=⟨rfl,rfl,rfl,Imp.refl _,rfl,Qn _,h⟩
def S61 (s:List Za) (v1:Za):Spec:=⟨[.r (.c (.l 1 eStr s)),.r (.c (.v (.string v1)))],.v (vI (F61 s v1)),True⟩
theorem ok61 (s:List Za) (v1:Za):(S61 s v1).ok Tryz.prog 61 :=
 Ue mixed (fn:=Tryz.f61) (ct:=.seqk [(0,0)] .no (.seq (.seqk [(0,0)] .no (.blk (.loop (ι:=Nat×Int) (fun i=>(fun (v8:Int)=>(⟨[(0,some (.h 0 0)),(1,some (.v (.string v1))),(7,some (.v (vI (s.length:Int)))),(8,some (.v (vI v8)))],[(0,some (.shr none (.l 1 eStr s)))],1⟩:St)) i.2) (Qdv s v1) (fun i=>i.1) (Qhj s) (fun i=>(fun (v8:Int)=>(.seq .no (.seq (.cond .no .no) (.seq (.blk (.seq .no (.seq .no (.cond (.seq .no .no) .no)))) (.reg [(0,.bnd)]))))) i.2)))) (.seq .no .no))) Tryz.func61 (fun (_:True)=>kn s fun _=>kn s fun _=>ai (en61_0 s v1 uu0) (fun (i0:Nat×Int) (hi0:Qdv s v1 i0)=>(fun (m0:Nat) (v8:Int) (hh0:Udw s v1 i0 m0 v8)=>have hI0:=hh0.1; have hl0:=hh0.2.1; have _:=hh0.2.2.1; have _:=hh0.2.2.2; ifd (v8<(s.length:Int)) (fun h2 _=>ai (uu0:ib v8 s) (ifb (v1.toList==(s.getD v8.toNat default).toList) (fun h3=>fiI v8 (F61 s v1) (finR (Um hI0 (condT h2 (condT h3 rfl))) rfl)) (fun h3=>ai (iok (v8+1) uu0) (bk61_0 s v1 i0 m0 (v8+1) hl0 (Ud hI0 (condT h2 (condF h3 rfl))) uu5)))) (fun h2 _=>have hD0_4:Ubb s v1=Lp.done v8:=Uh hI0 (condF h2 rfl); fiI (-1) (F61 s v1) (finD hD0_4 rfl))) (i0.1-1) i0.2 (un61_0 s v1 i0 hi0))) uu1
theorem kc61 (s:List Za) (v1:Za) {K_:Prop} (k_:K_):(True)/\(Imp (.l 1 eStr s) (.l 1 eStr s))/\(Imp (.v (.string v1)) (.v (.string v1)))/\K_:=⟨trivial,Imp.refl _,Imp.refl _,k_⟩
abbrev kh61 (s:List Za) (v1:Za):Hint true Tryz.prog:=.call 61 (S61 s v1) (ok61 s v1) none
def F26 (s:List Za) (v1:Za):Bool :=
 decide ((F61 s v1)>=0)
def S26 (s:List Za) (v1:Za):Spec:=⟨[.r (.c (.l 1 eStr s)),.r (.c (.v (.string v1)))],.v (.bool (F26 s v1)),True⟩
theorem ok26 (s:List Za) (v1:Za):(S26 s v1).ok Tryz.prog 26 :=
 Ue mixed (fn:=Tryz.f26) (ct:=.seqk [(0,0)] .no (.seq (.reg [(2,kh61 s v1)]) .no)) Tryz.func26 (fun (_:True)=>kn s fun _=>kc61 s v1 (fiB (decide ((F61 s v1)>=0)) (F26 s v1) rfl)) uu1
theorem kc70 (s:Za) (sep:Za) {K_:Prop} (p0_:s.size<=4294967280) (p1_:1<=sep.size) (q0_:1<=sep.size) (q1_:1<=sep.size) (k_:((F70 s sep).length<=s.size+1)->(1<=(F70 s sep).length)->K_):(s.size<=4294967280/\1<=sep.size)/\(Imp (.v (.string s)) (.v (.string s)))/\(Imp (.v (.string sep)) (.v (.string sep)))/\K_:=⟨⟨p0_,p1_⟩,Imp.refl _,Imp.refl _,k_ (Qzo s sep q0_) (Qqz s sep q1_)⟩
abbrev kh70 (s:Za) (sep:Za):Hint true Tryz.prog:=.call 70 (S70 s sep) (ok70 s sep) none
theorem kc26 (s:List Za) (v1:Za) {K_:Prop} (k_:K_):(True)/\(Imp (.l 1 eStr s) (.l 1 eStr s))/\(Imp (.v (.string v1)) (.v (.string v1)))/\K_:=⟨trivial,Imp.refl _,Imp.refl _,k_⟩
abbrev kh26 (s:List Za) (v1:Za):Hint true Tryz.prog:=.call 26 (S26 s v1) (ok26 s v1) none
abbrev w2_:Za:=⟨#[44]⟩
abbrev Zr:List Za:=[Zb,Zl,Zc,Zg,Zd,Zh,Zf,Zj]
def Li (word:Za):Int->Lp Int (List Za×Bool):=fun v19 =>
 bif (decide (v19<((F70 word ⟨#[44]⟩).length:Int))) then (bif (bif (!(F26 Zr ((F70 word ⟨#[44]⟩).getD v19.toNat default))) then true else (bif decide (v19>0) then (!(Op.bytesLess ((F70 word ⟨#[44]⟩).getD (v19-1).toNat default).toList ((F70 word ⟨#[44]⟩).getD v19.toNat default).toList)) else false)) then (.ret (([]:List Za),false)) else (.next (v19+1))) else (.done v19)
def F66 (word:Za):List Za×Bool :=
 bif (bif (word.toList==Zm.toList) then true else (word.toList==Zq.toList)) then (([word]:List Za),true) else ((runL (Li word) ((((F70 word ⟨#[44]⟩).length:Int)-0).toNat+1) 0).fin (fun r=>r) (fun v19=>((F70 word ⟨#[44]⟩),true)))
abbrev Qeq (word:Za):Nat×Int:=(((((F70 word w2_).length:Int)-0).toNat+1),0)
abbrev Qtr (word:Za) (m39:Nat) (v19:Int):Prop:=Int.toNat (((F70 word w2_).length:Int)-v19)<m39/\(0:Int)<=v19
abbrev Ubi (word:Za):Lp Int (List Za×Bool):=LpX (Li word) (Qeq word)
abbrev Qhv (word:Za) (i:Nat×Int):Prop:=LpJ (Li word) (Qeq word) i (Qtr word i.1 i.2)
abbrev Uec (word:Za) (i:Nat×Int) (m39:Nat) (v19:Int):Prop:=LpH (Li word) (Qeq word) i m39 v19 (Qtr word (m39+1) v19)
abbrev Ufj (word:Za) (v19:Int) (v19_:Int) (K39:Prop):Prop:=(Rf (.int .i64 ((F70 word w2_).length:Int)))/\((.int .i64 v19:Value)=.int .i64 v19_)/\(Im (.l 1 eStr (F70 word w2_)))/\K39
theorem un66_0 (word:Za) (i:Nat×Int) (h:Qhv word i):Uec word i (i.1-1) i.2:=⟨hd1 h.1 h.2.1,hd3 h.2.1,hd2 h.2.1,h.2.2⟩
theorem bk66_0 (word:Za) (i:Nat×Int) (m39:Nat) (v19:Int) (hl:m39<i.1) (e:runL (Li word) m39 v19=Ubi word) (h:Qtr word m39 v19):∃ j:Nat×Int,Ufj word v19 j.2 (Qhv word j/\j.1<i.1):=⟨(m39,v19),rfl,rfl,Imp.refl _,⟨e,h⟩,hl⟩
theorem en66_0 (word:Za) (h:(0:Int)<=0):Ufj word 0 0 (Qhv word (Qeq word)):=⟨rfl,rfl,Imp.refl _,rfl,Qn _,h⟩
theorem fi66 (word:Za) (r:List Za×Bool) (hF:r=(F66 word)):(Imp (.l 1 eStr r.1) (.l 1 eStr (F66 word).1))/\((.bool r.2:Value)=.bool (F66 word).2)/\True:=by cases hF; exact ⟨Imp.refl _,rfl,trivial⟩
def S66 (word:Za):Spec:=⟨[.r (.c (.v (.string word)))],.tu [.ow (.l 1 eStr (F66 word).1),.v (.bool (F66 word).2)],word.size<=1048576⟩
theorem ok66 (word:Za):(S66 word).ok Tryz.prog 66 :=
 Ue mixed (fn:=Tryz.f66) (ct:=.seq .no (.seq (.seq .no (.cond (.seq (.reg [(1,.dat (.l 1 eStr ([word]:List Za)))]) .no) .no)) (.seq (.reg [(1,kh70 word w2_)]) (.seq (.seqk [(4,0),(17,0)] .no (.blk (.loop (ι:=Nat×Int) (fun i=>(fun (v19:Int)=>(⟨[(4,some (.h 0 0)),(17,some (.h 0 0)),(18,some (.v (vI ((F70 word w2_).length:Int)))),(19,some (.v (vI v19)))],[(0,some (.own 0 (.l 1 eStr (F70 word w2_))))],1⟩:St)) i.2) (Qhv word) (fun i=>i.1) (Qeq word) (fun i=>(fun (v19:Int)=>(.seq .no (.seq (.cond .no .no) (.seq (.blk (.seq .no (.seq (.reg [(0,.dat (.l 1 eStr Zr)),(2,kh26 Zr ((F70 word w2_).getD v19.toNat default)),(10,.bnd)]) (.cond (.seq .no .no) .no)))) (.reg [(0,.bnd)]))))) i.2)))) (.seq .no .no))))) Tryz.func66 (fun (hpre0:word.size<=1048576)=>ifb (bif (word.toList==Zm.toList) then true else (word.toList==Zq.toList)) (fun h1=>ai (bokr 1 eStr ([word]:List Za) fun _=>rfl) (fi66 word (([word]:List Za),true) (condT h1 rfl))) (fun h1=>have _:(word.toList==Zm.toList)=false:=(orF1 h1); have _:(word.toList==Zq.toList)=false:=(orF2 h1); kc70 word w2_ uu0 uu2 uu2 uu2 (fun gv2 gv3=>kn (F70 word w2_) fun _=>kn (F70 word w2_) fun _=>ai (en66_0 word uu0) (fun (i0:Nat×Int) (hi0:Qhv word i0)=>(fun (m0:Nat) (v19:Int) (hh0:Uec word i0 m0 v19)=>have hI0:=hh0.1; have hl0:=hh0.2.1; have _:=hh0.2.2.1; have _:=hh0.2.2.2; ifd (v19<((F70 word w2_).length:Int)) (fun h5 _=>ai (uu0:ib v19 (F70 word w2_)) (ai (bokr 1 eStr Zr fun _=>rfl) (kc26 Zr ((F70 word w2_).getD v19.toNat default) (ai (fun k7:(decide (v19>0))=true=>have _:=Qb k7; (fun k6:(!(F26 Zr ((F70 word w2_).getD v19.toNat default)))=false=>iok (v19-1) uu0)) (ai (fun k9:(decide (v19>0))=true=>have _:=Qb k9; (fun k8:(!(F26 Zr ((F70 word w2_).getD v19.toNat default)))=false=>(uu0:ib (v19-1) (F70 word w2_)))) (ifb (bif (!(F26 Zr ((F70 word w2_).getD v19.toNat default))) then true else (bif decide (v19>0) then (!(Op.bytesLess ((F70 word w2_).getD (v19-1).toNat default).toList ((F70 word w2_).getD v19.toNat default).toList)) else false)) (fun h10=>(fun hF:(([]:List Za),false)=(F66 word)=>ai ((Imp.nil 1 eStr).trans (Imp.of_eq (Qt (fun r:List Za×Bool=>Dat.l 1 eStr r.1) hF))) (ai (Qt (fun r:List Za×Bool=>(.bool r.2:Value)) hF) trivial)) (condF h1 (finR (Um hI0 (condT h5 (condT h10 rfl))) rfl))) (fun h10=>ai (iok (v19+1) uu0) (bk66_0 word i0 m0 (v19+1) hl0 (Ud hI0 (condT h5 (condF h10 rfl))) uu5)))))))) (fun h5 _=>have hD0_11:Ubi word=Lp.done v19:=Uh hI0 (condF h5 rfl); fi66 word ((F70 word w2_),true) (condF h1 (finD hD0_11 rfl)))) (i0.1-1) i0.2 (un66_0 word i0 hi0))))) uu1
def F176 (w1:Za):Bool :=
 (w1.toList==Zi.toList)
def S176 (w1:Za):Spec:=⟨[.r (.c (.v (.string w1)))],.v (.bool (F176 w1)),True⟩
theorem ok176 (w1:Za):(S176 w1).ok Tryz.prog 176 :=
 Ue mixed (fn:=Tryz.f176) (ct:=.seq .no (.seq .no .no)) Tryz.func176 (fun (_:True)=>fiB (w1.toList==Zi.toList) (F176 w1) rfl) uu1
def We (Q:Za->Prop) (p:Za->Bool):Zx:=⟨Za,fun i=>[.c (.x (PX (.v (.string i)) (Q i)))],fun i=>.bool (p i)⟩
def Mg (s:List Za) (f:Za->Bool):Int->Lp Int Int:=fun v8 =>
 bif (decide (v8<(s.length:Int))) then (bif (f (s.getD v8.toNat default)) then (.ret v8) else (.next (v8+1))) else (.done v8)
def F127 (s:List Za) (f:Za->Bool):Int :=
 (runL (Mg s f) (((s.length:Int)-0).toNat+1) 0).fin (fun r=>r) (fun v8=>(-1))
abbrev Qba (s:List Za):Nat×Int:=((((s.length:Int)-0).toNat+1),0)
abbrev Qnp (s:List Za) (m39:Nat) (v8:Int):Prop:=Int.toNat ((s.length:Int)-v8)<m39/\(0:Int)<=v8
abbrev Qty (s:List Za) (f:Za->Bool):Lp Int Int:=LpX (Mg s f) (Qba s)
abbrev Qat (s:List Za) (f:Za->Bool) (i:Nat×Int):Prop:=LpJ (Mg s f) (Qba s) i (Qnp s i.1 i.2)
abbrev Qym (s:List Za) (f:Za->Bool) (i:Nat×Int) (m39:Nat) (v8:Int):Prop:=LpH (Mg s f) (Qba s) i m39 v8 (Qnp s (m39+1) v8)
abbrev Qyu (Qf:Za->Prop) (s:List Za) (f:Za->Bool) (v8:Int) (v8_:Int) (K39:Prop):Prop:=(Rf (.int .i64 (s.length:Int)))/\((.int .i64 v8:Value)=.int .i64 v8_)/\(Im (.l 1 eStr s))/\(We Qf f=We Qf f)/\K39
theorem Ume (s:List Za) (f:Za->Bool) (i:Nat×Int) (h:Qat s f i):Qym s f i (i.1-1) i.2:=⟨hd1 h.1 h.2.1,hd3 h.2.1,hd2 h.2.1,h.2.2⟩
theorem Ujf (Qf:Za->Prop) (s:List Za) (f:Za->Bool) (i:Nat×Int) (m39:Nat) (v8:Int) (hl:m39<i.1) (e:runL (Mg s f) m39 v8=Qty s f) (h:Qnp s m39 v8):∃ j:Nat×Int,Qyu Qf s f v8 j.2 (Qat s f j/\j.1<i.1):=⟨(m39,v8),rfl,rfl,Imp.refl _,rfl,⟨e,h⟩,hl⟩
theorem Uky (Qf:Za->Prop) (s:List Za) (f:Za->Bool) (h:(0:Int)<=0):Qyu Qf s f 0 0 (Qat s f (Qba s)):=⟨rfl,rfl,Imp.refl _,rfl,rfl,Qn _,h⟩
def S127 (R:Int) (s:List Za) (f:Za->Bool) (Qf:Za->Prop):Spec:=⟨[.r (.c (.l 1 eStr s)),.fn (We Qf f)],.v (vI R),(∀ k:Nat,k<s.length->Qf (s.getD k default))⟩
theorem ok127 (s:List Za) (f:Za->Bool) (Qf:Za->Prop):(S127 (F127 s f) s f Qf).ok Tryz.prog 127 false :=
 Ue mixed (fn:=Tryz.f127) (ct:=.seqk [(0,0)] .no (.seq (.seqk [(0,0)] .no (.blk (.loop (ι:=Nat×Int) (fun i=>(fun (v8:Int)=>(⟨[(0,some (.h 0 0)),(1,some (.h 1 0)),(7,some (.v (vI (s.length:Int)))),(8,some (.v (vI v8)))],[(0,some (.shr none (.l 1 eStr s))),(1,some (.fn (We Qf f)))],2⟩:St)) i.2) (Qat s f) (fun i=>i.1) (Qba s) (fun i=>(fun (v8:Int)=>(.seq .no (.seq (.cond .no .no) (.seq (.blk (.seq .no (.seq (.reg [(5,.fnv (We Qf f) (s.getD v8.toNat default))]) (.cond (.seq .no .no) .no)))) (.reg [(0,.bnd)]))))) i.2)))) (.seq .no .no))) Tryz.func127 (fun (hpre0:∀ k:Nat,k<s.length->Qf (s.getD k default))=>kn s fun _=>kn s fun _=>ai (Uky Qf s f uu0) (fun (i0:Nat×Int) (hi0:Qat s f i0)=>(fun (m0:Nat) (v8:Int) (hh0:Qym s f i0 m0 v8)=>have hI0:=hh0.1; have hl0:=hh0.2.1; have _:=hh0.2.2.1; have _:=hh0.2.2.2; ifd (v8<(s.length:Int)) (fun h2 _=>ai (uu0:ib v8 s) (ai (Eq.refl (We Qf f)) (ai (Imp.px (d:=.v (.string (s.getD v8.toNat default))) (hpre0 v8.toNat uu0)) (ifb (f (s.getD v8.toNat default)) (fun h3=>fiI v8 (F127 s f) (finR (Um hI0 (condT h2 (condT h3 rfl))) rfl)) (fun h3=>ai (iok (v8+1) uu0) (Ujf Qf s f i0 m0 (v8+1) hl0 (Ud hI0 (condT h2 (condF h3 rfl))) uu5)))))) (fun h2 _=>have hD0_4:Qty s f=Lp.done v8:=Uh hI0 (condF h2 rfl); fiI (-1) (F127 s f) (finD hD0_4 rfl))) (i0.1-1) i0.2 (Ume s f i0 hi0))) uu1
theorem as127 (s:List Za) (f:Za->Bool):F127 s f=(idxI f s):=by
 exact Bu f s (Mg s f) (fun i=>rfl)
theorem oa127 (s:List Za) (f:Za->Bool) (Qf:Za->Prop):(S127 (idxI f s) s f Qf).ok Tryz.prog 127 false:=by
 intro hp; have h:=ok127 s f Qf hp; rw [as127 s f] at h; exact h
theorem g127_0 (s:List Za) (f:Za->Bool):(idxI f s)<(s.length:Int):=by
 exact Qai f s
theorem g127_1 (s:List Za) (f:Za->Bool):-1<=(idxI f s):=by
 (show -1<=idxI f s; unfold idxI; cases first (fun k=>f (s.getD k default)) s.length <;> simp only [oix] <;> omega)
theorem Ufx (s:List Za) (f:Za->Bool) (Qf:Za->Prop) {K_:Prop} (p0_:∀ k:Nat,k<s.length->Qf (s.getD k default)) (k_:((idxI f s)<(s.length:Int))->(-1<=(idxI f s))->K_):(∀ k:Nat,k<s.length->Qf (s.getD k default))/\(Imp (.l 1 eStr s) (.l 1 eStr s))/\(We Qf f=We Qf f)/\K_:=⟨p0_,Imp.refl _,rfl,k_ (g127_0 s f) (g127_1 s f)⟩
abbrev Ufg (s:List Za) (f:Za->Bool) (Qf:Za->Prop):Hint false Tryz.prog:=.call 127 (S127 (idxI f s) s f Qf) (oa127 s f Qf) none
def Ma (s:List Za) (del:Za->Bool):(Int×Int×List Za)->Lp (Int×Int×List Za) (List Za):=fun (i41,j1,xs) =>
 bif (decide (j1<(xs.length:Int))) then (bif (!(del (xs.getD j1.toNat default))) then (.next ((i41+1),(j1+1),(xs.set (i41).toNat (xs.getD j1.toNat default)))) else (.next (i41,(j1+1),xs))) else (.done (i41,j1,xs))
def Qdk (s:List Za) (del:Za->Bool):Lp (List Za×Int) (List Za) :=
 (runL (Ma s del) (((s.length:Int)-((idxI del s)+1)).toNat+1) ((idxI del s),((idxI del s)+1),s)).fin Lp.ret (fun (i41,j1,xs)=>.done (xs,i41))
def F175 (s:List Za) (del:Za->Bool):List Za :=
 bif ((idxI del s)==(-1)) then s else ((Qdk s del).fin (fun r=>r) (fun (s1,i40)=>((s1.take i40.toNat++List.replicate (s1.drop i40.toNat).length (Zi:Za)++s1.drop (i40.toNat+(s1.drop i40.toNat).length)).take i40.toNat)))
abbrev Qav (s:List Za) (del:Za->Bool):Nat×(Int×Int×List Za):=((((s.length:Int)-((idxI del s)+1)).toNat+1),((idxI del s),((idxI del s)+1),s))
abbrev Qna (Qdel:Za->Prop) (s:List Za) (m39:Nat) (i41:Int) (j1:Int) (xs:List Za):Prop:=Int.toNat ((xs.length:Int)-j1)<m39/\(0<=i41/\i41<j1)/\j1<=(xs.length:Int)/\xs.length<=1000000000/\(∀ k:Nat,j1<=(k:Int)->k<xs.length->Qdel (xs.getD k default))/\xs.length=s.length
abbrev Qyf (s:List Za) (del:Za->Bool):Lp (Int×Int×List Za) (List Za):=LpX (Ma s del) (Qav s del)
abbrev Pm (Qdel:Za->Prop) (s:List Za) (del:Za->Bool) (i:Nat×(Int×Int×List Za)):Prop:=LpJ (Ma s del) (Qav s del) i (Qna Qdel s i.1 i.2.1 i.2.2.1 i.2.2.2)
abbrev Qxn (Qdel:Za->Prop) (s:List Za) (del:Za->Bool) (i:Nat×(Int×Int×List Za)) (m39:Nat) (i41:Int) (j1:Int) (xs:List Za):Prop:=LpH (Ma s del) (Qav s del) i m39 (i41,j1,xs) (Qna Qdel s (m39+1) i41 j1 xs)
abbrev Qyl (Qdel:Za->Prop) (del:Za->Bool) (i41:Int) (j1:Int) (xs:List Za) (i41_:Int) (j1_:Int) (xs_:List Za) (K39:Prop):Prop:=((.int .i64 i41:Value)=.int .i64 i41_)/\((.int .i64 j1:Value)=.int .i64 j1_)/\(Imp (.l 1 eStr xs) (.l 1 eStr xs_))/\(We Qdel del=We Qdel del)/\K39
theorem Ukg (Qdel:Za->Prop) (s:List Za) (del:Za->Bool) (i:Nat×(Int×Int×List Za)) (h:Pm Qdel s del i):Qxn Qdel s del i (i.1-1) i.2.1 i.2.2.1 i.2.2.2:=⟨hd1 h.1 h.2.1,hd3 h.2.1,hd2 h.2.1,h.2.2⟩
theorem Qvl (Qdel:Za->Prop) (s:List Za) (del:Za->Bool) (i:Nat×(Int×Int×List Za)) (m39:Nat) (i41:Int) (j1:Int) (xs:List Za) (hl:m39<i.1) (e:runL (Ma s del) m39 (i41,j1,xs)=Qyf s del) (h:Qna Qdel s m39 i41 j1 xs):∃ j:Nat×(Int×Int×List Za),Qyl Qdel del i41 j1 xs j.2.1 j.2.2.1 j.2.2.2 (Pm Qdel s del j/\j.1<i.1):=⟨(m39,(i41,j1,xs)),rfl,rfl,Imp.refl _,rfl,⟨e,h⟩,hl⟩
theorem Umv (Qdel:Za->Prop) (s:List Za) (del:Za->Bool) (h:(0<=(idxI del s)/\(idxI del s)<((idxI del s)+1))/\((idxI del s)+1)<=(s.length:Int)/\s.length<=1000000000/\(∀ k:Nat,((idxI del s)+1)<=(k:Int)->k<s.length->Qdel (s.getD k default))/\s.length=s.length):Qyl Qdel del (idxI del s) ((idxI del s)+1) s (idxI del s) ((idxI del s)+1) s (Pm Qdel s del (Qav s del)):=⟨rfl,rfl,Imp.refl _,rfl,rfl,Qn _,h⟩
abbrev Qnd (s:List Za) (del:Za->Bool) (s1:List Za) (i40:Int):Prop:=(0<=i40/\i40<=(s1.length:Int))/\True
abbrev Qmp (s:List Za) (del:Za->Bool) (j:List Za×Int):Prop:=(Qdk s del)=Lp.done j/\Qnd s del j.1 j.2
theorem Ulb (s:List Za) (del:Za->Bool) (s1:List Za) (i40:Int) (e:(Qdk s del)=Lp.done (s1,i40)) (h:Qnd s del s1 i40):∃ j:List Za×Int,((.int .i64 i40:Value)=.int .i64 j.2)/\(Imp (.l 1 eStr s1) (.l 1 eStr j.1))/\Qmp s del j:=⟨(s1,i40),rfl,Imp.refl _,e,h⟩
theorem fi175 (s:List Za) (del:Za->Bool) (r:List Za) (hF:r=(F175 s del)):(Imp (.l 1 eStr r) (.l 1 eStr (F175 s del)))/\True:=by cases hF; exact ⟨Imp.refl _,trivial⟩
def S175 (R:List Za) (s:List Za) (del:Za->Bool) (Qdel:Za->Prop):Spec:=⟨[.ow (.l 1 eStr s) none,.fn (We Qdel del)],.ow (.l 1 eStr R),s.length<=1000000000/\(∀ k:Nat,k<s.length->Qdel (s.getD k default))⟩
theorem ok175 (s:List Za) (del:Za->Bool) (Qdel:Za->Prop):(S175 (F175 s del) s del Qdel).ok Tryz.prog 175 false :=
 Ue mixed (fn:=Tryz.f175) (ct:=.seqk [(0,0)] .no (.seq (.reg [(2,Ufg s del Qdel)]) (.seq (.seq .no (.cond (.seq .no .no) .no)) (.cut (ι:=List Za×Int) (fun j=>(fun (s1:List Za) (i40:Int)=>(⟨[(0,some (.h 0 0)),(5,some (.v (vI i40)))],[(0,some (.own 0 (.l 1 eStr s1)))],1⟩:St)) j.1 j.2) (Qmp s del) (.seqk [(0,0)] (.reg [(1,.bnd)]) (.blk (.loop (ι:=Nat×(Int×Int×List Za)) (fun i=>(fun (i41:Int) (j1:Int) (xs:List Za)=>(⟨[(0,some (.h 0 0)),(1,some (.h 1 0)),(5,some (.v (vI i41))),(6,some (.v (vI j1)))],[(0,some (.own 0 (.l 1 eStr xs))),(1,some (.fn (We Qdel del)))],2⟩:St)) i.2.1 i.2.2.1 i.2.2.2) (Pm Qdel s del) (fun i=>i.1) (Qav s del) (fun i=>(fun (i41:Int) (j1:Int) (xs:List Za)=>(.seq (.seq .no (.cond .no .no)) (.seq (.blk (.seq .no (.seq (.reg [(2,.fnv (We Qdel del) (xs.getD j1.toNat default))]) (.cond (.seq (.reg [(4,.dat (.l 1 eStr (xs.set (i41).toNat (xs.getD j1.toNat default))))]) (.reg [(1,.bnd)])) .no)))) (.reg [(1,.bnd)])))) i.2.1 i.2.2.1 i.2.2.2)))) (fun j=>(fun (s1:List Za) (i40:Int)=>(.seq (.reg [(2,.part),(3,.dat (.l 1 eStr (s1.take i40.toNat++List.replicate (s1.drop i40.toNat).length (Zi:Za)++s1.drop (i40.toNat+(s1.drop i40.toNat).length))))]) (.seq (.reg [(2,.own)]) .no))) j.1 j.2))))) Tryz.func175 (fun (hp:s.length<=1000000000/\(∀ k:Nat,k<s.length->Qdel (s.getD k default)))=>have hpre0:=hp.1; have hpre1:=hp.2; kn s fun _=>Ufx s del Qdel uu27 (fun gv1 gv2=>ife (idxI del s) (-1) (fun h3 _=>fi175 s del s (condT h3 rfl)) (fun h3 _=>ai (ai (iok ((idxI del s)+1) uu3) (kn s fun _=>ai (Umv Qdel s del (by refine ⟨?_,?_,?_,?_,?_⟩ <;> first | omega | (simp only [lens,ib] at*<;> omega) | (intro k hk hk2; first | exact (by assumption:∀ k:Nat,k<s.length->Qdel (s.getD k default)) k hk2 | exact (by assumption:∀ k:Nat,j1<=(k:Int)->k<xs.length->Qdel (xs.getD k default)) k (by first | omega | (simp only [lens,ib] at*<;> omega)) hk2 | (rw [Wa _ _ _ _ (by first | omega | (simp only [lens,ib] at*<;> omega))]; exact (by assumption:∀ k:Nat,j1<=(k:Int)->k<xs.length->Qdel (xs.getD k default)) k (by first | omega | (simp only [lens,ib] at*<;> omega)) (by simpa using hk2))))) (fun (i0:Nat×(Int×Int×List Za)) (hi0:Pm Qdel s del i0)=>(fun (m0:Nat) (i41:Int) (j1:Int) (xs:List Za) (hh0:Qxn Qdel s del i0 m0 i41 j1 xs)=>have hI0:=hh0.1; have hl0:=hh0.2.1; have _:=hh0.2.2.1; have _:=hh0.2.2.2.1; have _:=hh0.2.2.2.2.1; have _:=hh0.2.2.2.2.2.1; have _:=hh0.2.2.2.2.2.2.1; have _:=hh0.2.2.2.2.2.2.2; ifd (j1<(xs.length:Int)) (fun h5 _=>ai (uu3:ib j1 xs) (ai (Eq.refl (We Qdel del)) (ai (Imp.px (d:=.v (.string (xs.getD j1.toNat default))) ((uu6:∀ k:Nat,j1<=(k:Int)->k<xs.length->Qdel (xs.getD k default)) j1.toNat uu3 uu3)) (ifb (!(del (xs.getD j1.toNat default))) (fun h6=>have _:=(Yq h6); ai (uu3:ib i41 xs) (ai (setr 1 eStr xs (i41).toNat (xs.getD j1.toNat default)) (ai (iok (i41+1) uu3) (ai (iok (j1+1) uu3) (Qvl Qdel s del i0 m0 (i41+1) (j1+1) (xs.set (i41).toNat (xs.getD j1.toNat default)) hl0 (Ud hI0 (condT h5 (condT h6 rfl))) uu53))))) (fun h6=>have _:=(Uw h6); ai (iok (j1+1) uu3) (Qvl Qdel s del i0 m0 i41 (j1+1) xs hl0 (Ud hI0 (condT h5 (condF h6 rfl))) uu53)))))) (fun h5 _=>have hD0_7:Qyf s del=Lp.done (i41,j1,xs):=Uh hI0 (condF h5 rfl); Ulb s del xs i41 (G6 (finD hD0_7 rfl)) (by refine ⟨?_,?_⟩ <;> first | exact trivial | omega | (simp only [lens,ib] at*<;> omega)))) (i0.1-1) i0.2.1 i0.2.2.1 i0.2.2.2 (Ukg Qdel s del i0 hi0)))) (fun (j:List Za×Int) (hj:Qmp s del j)=>(fun (s1:List Za) (i40:Int) (hJ0_8:(Qdk s del)=Lp.done (s1,i40)) (hw:Qnd s del s1 i40)=>have _:=hw.1; ai (uu3:0<=i40/\i40<=(s1.length:Int)/\(s1.length:Int)<=(s1.length:Int)) (ai (ClearOK.mk eStr s1 (Zi:Za) rfl (fun y e he=>by simp only [eStr,Qu,Rv,G4] at he; rcases he with rfl <;> exact ⟨_,rfl⟩):ClearOK (.l 1 eStr s1) i40.toNat (s1.drop i40.toNat).length 1 [.string Zi] (.l 1 eStr (s1.take i40.toNat++List.replicate (s1.drop i40.toNat).length (Zi:Za)++s1.drop (i40.toNat+(s1.drop i40.toNat).length)))) (ai (uu3:0<=(0:Int)/\(0:Int)<=i40/\i40<=((s1.take i40.toNat++List.replicate (s1.drop i40.toNat).length (Zi:Za)++s1.drop (i40.toNat+(s1.drop i40.toNat).length)).length:Int)) (fi175 s del ((s1.take i40.toNat++List.replicate (s1.drop i40.toNat).length (Zi:Za)++s1.drop (i40.toNat+(s1.drop i40.toNat).length)).take i40.toNat) (condF h3 (finD hJ0_8 rfl)))))) j.1 j.2 hj.1 hj.2)))) uu1
theorem as175 (s:List Za) (del:Za->Bool):F175 s del=(s.filter (fun x=>!(del x))):=by
 exact Qpp del s _ (Ma s del) (fun i j xs=>rfl)
theorem oa175 (s:List Za) (del:Za->Bool) (Qdel:Za->Prop):(S175 (s.filter (fun x=>!(del x))) s del Qdel).ok Tryz.prog 175 false:=by
 intro hp; have h:=ok175 s del Qdel hp; rw [as175 s del] at h; exact h
def F177 (w1:Za):Bool :=
 decide ((w1.size:Int)>24)
def S177 (w1:Za):Spec:=⟨[.r (.c (.v (.string w1)))],.v (.bool (F177 w1)),True⟩
theorem ok177 (w1:Za):(S177 w1).ok Tryz.prog 177 :=
 Ue mixed (fn:=Tryz.f177) (ct:=.seq .no (.seq .no .no)) Tryz.func177 (fun (_:True)=>fiB (decide ((w1.size:Int)>24)) (F177 w1) rfl) uu1
def F94 (s:List Za) (f:Za->Bool):Bool :=
 decide ((idxI f s)>=0)
def S94 (R:Bool) (s:List Za) (f:Za->Bool) (Qf:Za->Prop):Spec:=⟨[.r (.c (.l 1 eStr s)),.fn (We Qf f)],.v (.bool R),(∀ k:Nat,k<s.length->Qf (s.getD k default))⟩
theorem ok94 (s:List Za) (f:Za->Bool) (Qf:Za->Prop):(S94 (F94 s f) s f Qf).ok Tryz.prog 94 false :=
 Ue mixed (fn:=Tryz.f94) (ct:=.seqk [(0,0)] .no (.seq (.reg [(2,Ufg s f Qf)]) .no)) Tryz.func94 (fun (hpre0:∀ k:Nat,k<s.length->Qf (s.getD k default))=>kn s fun _=>Ufx s f Qf uu6 (fun gv1 gv2=>fiB (decide ((idxI f s)>=0)) (F94 s f) rfl)) uu1
theorem as94 (s:List Za) (f:Za->Bool):F94 s f=(s.any f):=by
 exact Qdm f s
theorem oa94 (s:List Za) (f:Za->Bool) (Qf:Za->Prop):(S94 (s.any f) s f Qf).ok Tryz.prog 94 false:=by
 intro hp; have h:=ok94 s f Qf hp; rw [as94 s f] at h; exact h
abbrev kh70f (s:Za) (sep:Za):Hint false Tryz.prog:=.call 70 (S70 s sep) ((ok70 s sep).to false) none
def Jq (line:Za):Int->Lp Int (List Za×Bool):=fun i40 =>
 bif (decide (i40<((F34 line Zk).1.size:Int))) then (bif (!(decide (32<=(IntKind.i64.wrap (((F34 line Zk).1.data.getD i40.toNat 0).toNat:Int))/\(IntKind.i64.wrap (((F34 line Zk).1.data.getD i40.toNat 0).toNat:Int))<=126))) then (.ret (([]:List Za),false)) else (.next (i40+1))) else (.done i40)
def F133 (line:Za):List Za×Bool :=
 (runL (Jq line) ((((F34 line Zk).1.size:Int)-0).toNat+1) 0).fin (fun r=>r) (fun i40=>bif (bif decide ((((F70 (F34 line Zk).1 Ze).filter (fun x=>!((fun (x0:Za)=>F176 x0) x))).length:Int)>8) then true else (((F70 (F34 line Zk).1 Ze).filter (fun x=>!((fun (x0:Za)=>F176 x0) x))).any (fun (x0:Za)=>F177 x0))) then (([]:List Za),false) else (((F70 (F34 line Zk).1 Ze).filter (fun x=>!((fun (x0:Za)=>F176 x0) x))),true))
abbrev Qah (line:Za):Nat×Int:=(((((F34 line Zk).1.size:Int)-0).toNat+1),0)
abbrev Qml (line:Za) (m39:Nat) (i40:Int):Prop:=Int.toNat (((F34 line Zk).1.size:Int)-i40)<m39/\(0:Int)<=i40
abbrev Qvz (line:Za):Lp Int (List Za×Bool):=LpX (Jq line) (Qah line)
abbrev Ee (line:Za) (i:Nat×Int):Prop:=LpJ (Jq line) (Qah line) i (Qml line i.1 i.2)
abbrev Qvx (line:Za) (i:Nat×Int) (m39:Nat) (i40:Int):Prop:=LpH (Jq line) (Qah line) i m39 i40 (Qml line (m39+1) i40)
abbrev Qxy (line:Za) (i40:Int) (i40_:Int) (K39:Prop):Prop:=(Rf (.string (F34 line Zk).1))/\((.int .i64 i40:Value)=.int .i64 i40_)/\K39
theorem Ump (line:Za) (i:Nat×Int) (h:Ee line i):Qvx line i (i.1-1) i.2:=⟨hd1 h.1 h.2.1,hd3 h.2.1,hd2 h.2.1,h.2.2⟩
theorem Umc (line:Za) (i:Nat×Int) (m39:Nat) (i40:Int) (hl:m39<i.1) (e:runL (Jq line) m39 i40=Qvz line) (h:Qml line m39 i40):∃ j:Nat×Int,Qxy line i40 j.2 (Ee line j/\j.1<i.1):=⟨(m39,i40),rfl,rfl,⟨e,h⟩,hl⟩
theorem Ukj (line:Za) (h:(0:Int)<=0):Qxy line 0 0 (Ee line (Qah line)):=⟨rfl,rfl,rfl,Qn _,h⟩
theorem fi133 (line:Za) (r:List Za×Bool) (hF:r=(F133 line)):(Imp (.l 1 eStr r.1) (.l 1 eStr (F133 line).1))/\((.bool r.2:Value)=.bool (F133 line).2)/\True:=by cases hF; exact ⟨Imp.refl _,rfl,trivial⟩
def S133 (line:Za):Spec:=⟨[.r (.c (.v (.string line)))],.tu [.ow (.l 1 eStr (F133 line).1),.v (.bool (F133 line).2)],line.size<=1048576⟩
theorem ok133 (line:Za):(S133 line).ok Tryz.prog 133 false :=
 Ue mixed (fn:=Tryz.f133) (ct:=.seq .no (.seq (.reg [(1,Uil line Zk)]) (.seq (.seq .no (.blk (.loop (ι:=Nat×Int) (fun i=>(fun (i40:Int)=>(⟨[(0,some (.v (.string (F34 line Zk).1))),(4,some (.v (vI i40)))],[],0⟩:St)) i.2) (Ee line) (fun i=>i.1) (Qah line) (fun i=>(fun (i40:Int)=>(.seq (.seq .no (.cond .no .no)) (.seq (.blk (.seq (.reg [(4,Vc (IntKind.i64.wrap (((F34 line Zk).1.data.getD i40.toNat 0).toNat:Int)) 32 126)]) (.cond (.seq .no .no) .no))) (.reg [(1,.bnd)])))) i.2)))) (.seq (.reg [(1,kh70f (F34 line Zk).1 Ze),(2,.call 175 (S175 ((F70 (F34 line Zk).1 Ze).filter (fun x=>!((fun (x0:Za)=>F176 x0) x))) (F70 (F34 line Zk).1 Ze) (fun (x0:Za)=>F176 x0) (fun (x0:Za)=>True)) (oa175 (F70 (F34 line Zk).1 Ze) (fun (x0:Za)=>F176 x0) (fun (x0:Za)=>True)) (some ⟨true,176,We (fun (x0:Za)=>True) (fun (x0:Za)=>F176 x0),[],rfl,True,fun i=>Lh (ok176 i)⟩))]) (.seq (.seq (.reg [(5,.call 94 (S94 (((F70 (F34 line Zk).1 Ze).filter (fun x=>!((fun (x0:Za)=>F176 x0) x))).any (fun (x0:Za)=>F177 x0)) ((F70 (F34 line Zk).1 Ze).filter (fun x=>!((fun (x0:Za)=>F176 x0) x))) (fun (x0:Za)=>F177 x0) (fun (x0:Za)=>True)) (oa94 ((F70 (F34 line Zk).1 Ze).filter (fun x=>!((fun (x0:Za)=>F176 x0) x))) (fun (x0:Za)=>F177 x0) (fun (x0:Za)=>True)) (some ⟨true,177,We (fun (x0:Za)=>True) (fun (x0:Za)=>F177 x0),[],rfl,True,fun i=>Lh (ok177 i)⟩))]) (.cond (.seq .no .no) .no)) (.seq .no .no)))))) Tryz.func133 (fun (hpre0:line.size<=1048576)=>kc34 line Zk uu0 (fun gv1 gv2=>ai (Ukj line uu0) (fun (i0:Nat×Int) (hi0:Ee line i0)=>(fun (m0:Nat) (i40:Int) (hh0:Qvx line i0 m0 i40)=>have hI0:=hh0.1; have hl0:=hh0.2.1; have _:=hh0.2.2.1; have _:=hh0.2.2.2; ifd (i40<((F34 line Zk).1.size:Int)) (fun h4 _=>ai (uu0:0<=i40/\i40<((F34 line Zk).1.size:Int)) (Qis (IntKind.i64.wrap (((F34 line Zk).1.data.getD i40.toNat 0).toNat:Int)) 32 126 (ifb (!(decide (32<=(IntKind.i64.wrap (((F34 line Zk).1.data.getD i40.toNat 0).toNat:Int))/\(IntKind.i64.wrap (((F34 line Zk).1.data.getD i40.toNat 0).toNat:Int))<=126))) (fun h5=>have _:¬ (32<=(IntKind.i64.wrap (((F34 line Zk).1.data.getD i40.toNat 0).toNat:Int))/\(IntKind.i64.wrap (((F34 line Zk).1.data.getD i40.toNat 0).toNat:Int))<=126):=Qp (Yq h5); (fun hF:(([]:List Za),false)=(F133 line)=>ai ((Imp.nil 1 eStr).trans (Imp.of_eq (Qt (fun r:List Za×Bool=>Dat.l 1 eStr r.1) hF))) (ai (Qt (fun r:List Za×Bool=>(.bool r.2:Value)) hF) trivial)) (finR (Um hI0 (condT h4 (condT h5 rfl))) rfl)) (fun h5=>have _:32<=(IntKind.i64.wrap (((F34 line Zk).1.data.getD i40.toNat 0).toNat:Int))/\(IntKind.i64.wrap (((F34 line Zk).1.data.getD i40.toNat 0).toNat:Int))<=126:=Qb (Uw h5); ai (iok (i40+1) uu0) (Umc line i0 m0 (i40+1) hl0 (Ud hI0 (condT h4 (condF h5 rfl))) uu5))))) (fun h4 _=>have hD0_6:Qvz line=Lp.done i40:=Uh hI0 (condF h4 rfl); kc70 (F34 line Zk).1 Ze uu0 uu2 uu2 uu2 (fun gv7 gv8=>ai (ai (uu0:(F70 (F34 line Zk).1 Ze).length<=1000000000) (by (intros; exact trivial):∀ k:Nat,k<(F70 (F34 line Zk).1 Ze).length->(fun (x0:Za)=>True) ((F70 (F34 line Zk).1 Ze).getD k default))) (ai (Imp.refl (.l 1 eStr (F70 (F34 line Zk).1 Ze))) (ai (Eq.refl (We (fun (x0:Za)=>True) (fun (x0:Za)=>F176 x0))) (ai trivial (ai (fun k9:(decide ((((F70 (F34 line Zk).1 Ze).filter (fun x=>!((fun (x0:Za)=>F176 x0) x))).length:Int)>8))=false=>have _:¬ (((F70 (F34 line Zk).1 Ze).filter (fun x=>!((fun (x0:Za)=>F176 x0) x))).length:Int)>8:=Qp k9; (by (intros; exact trivial):∀ k:Nat,k<((F70 (F34 line Zk).1 Ze).filter (fun x=>!((fun (x0:Za)=>F176 x0) x))).length->(fun (x0:Za)=>True) (((F70 (F34 line Zk).1 Ze).filter (fun x=>!((fun (x0:Za)=>F176 x0) x))).getD k default))) (ai (fun k10:(decide ((((F70 (F34 line Zk).1 Ze).filter (fun x=>!((fun (x0:Za)=>F176 x0) x))).length:Int)>8))=false=>have _:¬ (((F70 (F34 line Zk).1 Ze).filter (fun x=>!((fun (x0:Za)=>F176 x0) x))).length:Int)>8:=Qp k10; (Imp.refl (.l 1 eStr ((F70 (F34 line Zk).1 Ze).filter (fun x=>!((fun (x0:Za)=>F176 x0) x)))))) (ai (fun k11:(decide ((((F70 (F34 line Zk).1 Ze).filter (fun x=>!((fun (x0:Za)=>F176 x0) x))).length:Int)>8))=false=>have _:¬ (((F70 (F34 line Zk).1 Ze).filter (fun x=>!((fun (x0:Za)=>F176 x0) x))).length:Int)>8:=Qp k11; (Eq.refl (We (fun (x0:Za)=>True) (fun (x0:Za)=>F177 x0)))) (ai (fun k12:(decide ((((F70 (F34 line Zk).1 Ze).filter (fun x=>!((fun (x0:Za)=>F176 x0) x))).length:Int)>8))=false=>have _:¬ (((F70 (F34 line Zk).1 Ze).filter (fun x=>!((fun (x0:Za)=>F176 x0) x))).length:Int)>8:=Qp k12; trivial) (ifb (bif decide ((((F70 (F34 line Zk).1 Ze).filter (fun x=>!((fun (x0:Za)=>F176 x0) x))).length:Int)>8) then true else (((F70 (F34 line Zk).1 Ze).filter (fun x=>!((fun (x0:Za)=>F176 x0) x))).any (fun (x0:Za)=>F177 x0))) (fun h13=>(fun hF:(([]:List Za),false)=(F133 line)=>ai ((Imp.nil 1 eStr).trans (Imp.of_eq (Qt (fun r:List Za×Bool=>Dat.l 1 eStr r.1) hF))) (ai (Qt (fun r:List Za×Bool=>(.bool r.2:Value)) hF) trivial)) (finD hD0_6 (condT h13 rfl))) (fun h13=>have _:¬ (((F70 (F34 line Zk).1 Ze).filter (fun x=>!((fun (x0:Za)=>F176 x0) x))).length:Int)>8:=Qp (orF1 h13); fi133 line (((F70 (F34 line Zk).1 Ze).filter (fun x=>!((fun (x0:Za)=>F176 x0) x))),true) (finD hD0_6 (condF h13 rfl)))))))))))))) (i0.1-1) i0.2 (Ump line i0 hi0)))) uu1
end Go.Proofs.YthjaknclldmheaaGreatDoor
namespace Go.Proofs.YthjaknclldmheaaGreatDoor
open Go.RowKit
set_option maxRecDepth 100000
set_option linter.unusedVariables false
set_option linter.unusedSimpArgs false
def Uz (c:UInt8):List UInt8->List (List UInt8)
 | []=>[[]]
 | b :: l=>if b=c then [] :: Uz c l else (match Uz c l with | []=>[[b]] | w :: ws=>(b :: w) :: ws)
theorem Yx {c:UInt8}:∀ {l:List UInt8},c ∉ l->Uz c l=[l]
 | [],_=>rfl
 | b :: l,h=>by
  have hb:b≠c:=fun e=>h (by rw [e]; exact Ql)
  rw [Uz,if_neg hb,Yx (fun hm=>h (Qi _ hm))]
theorem Ki {c:UInt8} (b:List UInt8):∀ {a:List UInt8},c ∉ a->Uz c (a++c :: b)=a :: Uz c b
 | [],_=>by rw [R3,Uz,if_pos rfl]
 | x :: a,h=>by
  have hb:x≠c:=fun e=>h (by rw [e]; exact Ql)
  rw [Tc,Uz,if_neg hb,Ki b (fun hm=>h (Qi _ hm))]
theorem Jv (c:UInt8):∀ l:List UInt8,(Lib.index l [c]=-1/\c ∉ l)\/∃ a b,l=a++c :: b/\c ∉ a/\Lib.index l [c]=(a.length:Int)
 | []=>.inl ⟨rfl,by simp⟩
 | x :: l=>by
  rw [Lib.index_one,Lib.indexByte]
  by_cases hx:x=c
  ·subst hx
   exact .inr ⟨[],l,rfl,by simp,by simp⟩
  ·have hx':(x==c)=false:=by simpa using hx
   rw [hx']
   rcases Jv c l with ⟨h1,h2⟩ | ⟨a,b,h1,h2,h3⟩
   ·rw [Lib.index_one] at h1
    refine .inl ⟨by rw [h1]; rfl,fun hm=>?_⟩
    rcases Qu.1 hm with h | h
    ·exact hx h.symm
    ·exact h2 h
   ·rw [Lib.index_one] at h3
    refine .inr ⟨x :: a,b,by rw [h1]; rfl,fun hm=>?_,?_⟩
    ·rcases Qu.1 hm with h | h
     ·exact hx h.symm
     ·exact h2 h
    ·rw [h3]
     have:((a.length:Int)==-1)=false:=by
      rw [Qz]; omega
     simp only [this,Tr,Gx,Q4]
     omega
theorem Bw {a b:Za} (h:a.data.toList=b.data.toList):a=b:=by
 cases a; cases b
 simp only at h
 congr
 exact Tt h
theorem Md (s:Za) (c:UInt8):(c ∉ s.data.toList/\cut3 s ⟨#[c]⟩=(s,Zi,false))\/∃ a b,s.data.toList=a++c :: b/\c ∉ a/\cut3 s ⟨#[c]⟩=(⟨a.toArray⟩,⟨b.toArray⟩,true):=by
 rcases Jv c s.data.toList with ⟨h1,h2⟩ | ⟨a,b,h1,h2,h3⟩
 ·refine .inl ⟨h2,?_⟩
  unfold cut3 Lib.cut
  rw [h1]
  rfl
 ·refine .inr ⟨a,b,h1,h2,?_⟩
  unfold cut3 Lib.cut
  rw [h3,if_pos uu0,h1]
  simp
theorem Qhg (c:UInt8):∀ (k:Nat) (s:Za),s.data.toList.count c=k->(Lib.splitB ⟨#[c]⟩ 0 k s).map (·.data.toList)=Uz c s.data.toList
 | 0,s,hk=>by
  rw [Yx (List.count_eq_zero.1 hk)]
  rfl
 | k+1,s,hk=>by
  rcases Jv c s.data.toList with ⟨h1,h2⟩ | ⟨a,b,h1,h2,h3⟩
  ·rw [List.count_eq_zero.2 h2] at hk; omega
  ·have hi:Lib.indexB s ⟨#[c]⟩=(a.length:Int):=h3
   unfold Lib.splitB
   rw [hi,if_neg (by rw [Sy]; omega),Rb,h1,Ki b h2]
   have hsz:s.size=a.length+(b.length+1):=by
    have:=Qt List.length h1
    rw [Ri,Q4,Q8] at this
    exact this
   have e1:(s.extract 0 (((a.length:Int)).toNat+0)).data.toList=a:=by
    rw [T5,Gj,Te,h1,Rk,To,Nat.sub_zero,Rm]
    rw [Sg (Qq _),List.take_length]
   have e2:(s.extract (((a.length:Int)).toNat+(⟨#[c]⟩:Za).size) s.size).data.toList=b:=by
    have hc1:(⟨#[c]⟩:Za).size=1:=rfl
    rw [hc1]
    simp only [T5,Gj,Te,h1,Rk,hsz]
    rw [Ss,Q7 uu0,R3]
    have e3:a.length+1-a.length=1:=by omega
    rw [e3,List.drop_succ_cons,Rm,Sb uu0]
   rw [e1,Qhg c k _ (by rw [e2]; rw [h1] at hk; simp [List.count_eq_zero.2 h2] at hk; omega),e2]
theorem Qho (s:Za) (c:UInt8):(Uv s ⟨#[c]⟩).map (·.data.toList)=Uz c s.data.toList:=by
 have:Lib.countB s ⟨#[c]⟩=s.data.toList.count c:=Lib.count_one c s.data.toList
 unfold Uv
 rw [this]
 exact Qhg c _ s rfl
def Ll (line:Za):Int->Lp Int Za:=fun i40 =>
 bif (decide (i40<(line.size:Int))) then (bif (((line.data.getD i40.toNat 0).toNat:Int)==35) then (.ret (line.extract (0:Int).toNat i40.toNat)) else (.next (i40+1))) else (.done i40)
def F96 (line:Za):Za :=
 (runL (Ll line) (((line.size:Int)-0).toNat+1) 0).fin (fun r=>r) (fun i40=>line)
abbrev Qfm (line:Za):Nat×Int:=((((line.size:Int)-0).toNat+1),0)
abbrev Qrh (line:Za) (m39:Nat) (i40:Int):Prop:=Int.toNat ((line.size:Int)-i40)<m39/\(0:Int)<=i40
abbrev Uen (line:Za):Lp Int Za:=LpX (Ll line) (Qfm line)
abbrev Qfu (line:Za) (i:Nat×Int):Prop:=LpJ (Ll line) (Qfm line) i (Qrh line i.1 i.2)
abbrev Ufv (line:Za) (i:Nat×Int) (m39:Nat) (i40:Int):Prop:=LpH (Ll line) (Qfm line) i m39 i40 (Qrh line (m39+1) i40)
abbrev Uih (line:Za) (i40:Int) (i40_:Int) (K39:Prop):Prop:=(Rf (.string line))/\((.int .i64 i40:Value)=.int .i64 i40_)/\K39
theorem un96_0 (line:Za) (i:Nat×Int) (h:Qfu line i):Ufv line i (i.1-1) i.2:=⟨hd1 h.1 h.2.1,hd3 h.2.1,hd2 h.2.1,h.2.2⟩
theorem bk96_0 (line:Za) (i:Nat×Int) (m39:Nat) (i40:Int) (hl:m39<i.1) (e:runL (Ll line) m39 i40=Uen line) (h:Qrh line m39 i40):∃ j:Nat×Int,Uih line i40 j.2 (Qfu line j/\j.1<i.1):=⟨(m39,i40),rfl,rfl,⟨e,h⟩,hl⟩
theorem en96_0 (line:Za) (h:(0:Int)<=0):Uih line 0 0 (Qfu line (Qfm line)):=⟨rfl,rfl,rfl,Qn _,h⟩
def S96 (R:Za) (line:Za):Spec:=⟨[.r (.c (.v (.string line)))],.v (.string R),line.size<=1048576⟩
theorem ok96 (line:Za):(S96 (F96 line) line).ok Tryz.prog 96 :=
 Ue mixed (fn:=Tryz.f96) (ct:=.seq .no (.seq (.seq .no (.blk (.loop (ι:=Nat×Int) (fun i=>(fun (i40:Int)=>(⟨[(0,some (.v (.string line))),(3,some (.v (vI i40)))],[],0⟩:St)) i.2) (Qfu line) (fun i=>i.1) (Qfm line) (fun i=>(fun (i40:Int)=>(.seq (.seq .no (.cond .no .no)) (.seq (.blk (.seq .no (.cond (.seq .no .no) .no))) (.reg [(1,.bnd)])))) i.2)))) (.seq .no .no))) Tryz.func96 (fun (hpre0:line.size<=1048576)=>ai (en96_0 line uu0) (fun (i0:Nat×Int) (hi0:Qfu line i0)=>(fun (m0:Nat) (i40:Int) (hh0:Ufv line i0 m0 i40)=>have hI0:=hh0.1; have hl0:=hh0.2.1; have _:=hh0.2.2.1; have _:=hh0.2.2.2; ifd (i40<(line.size:Int)) (fun h2 _=>ai (uu0:0<=i40/\i40<(line.size:Int)) (ife ((line.data.getD i40.toNat 0).toNat:Int) 35 (fun h3 _=>ai (uu0:0<=(0:Int)/\(0:Int)<=i40/\i40<=(line.size:Int)) (fiS (line.extract (0:Int).toNat i40.toNat) (F96 line) (finR (Um hI0 (condT h2 (condT h3 rfl))) rfl))) (fun h3 _=>ai (iok (i40+1) uu0) (bk96_0 line i0 m0 (i40+1) hl0 (Ud hI0 (condT h2 (condF h3 rfl))) uu5)))) (fun h2 _=>have hD0_4:Uen line=Lp.done i40:=Uh hI0 (condF h2 rfl); fiS line (F96 line) (finD hD0_4 rfl))) (i0.1-1) i0.2 (un96_0 line i0 hi0))) uu1
theorem Wq (s:Za) (i:Nat):s.data.getD i 0=s.data.toList.getD i 0:=by
 simp [Array.getD,Qd]
 split <;> simp_all
theorem cut_at {s:Za} {c:UInt8} {i:Nat} (hi:i<s.size) (h:s.data.toList.getD i 0=c) (hn:∀ j,j<i->s.data.toList.getD j 0≠c):(cut3 s ⟨#[c]⟩).1=s.extract 0 i:=by
 have hl:s.data.toList.length=s.size:=Q8
 rcases Md s c with ⟨h1,_⟩ | ⟨a,b,h1,h2,h3⟩
 ·exact absurd (by rw [<- h,Qd,Qh (by omega)]; exact Gp _) h1
 ·rw [h3]
  have hai:a.length=i:=by
   rcases Nat.lt_trichotomy a.length i with hlt | heq | hgt
   ·refine absurd ?_ (hn a.length hlt)
    rw [h1,Qd,Rl (Qq _)]
    simp
   ·exact heq
   ·rw [h1,Qd,R9 hgt,Qh hgt] at h
    exact absurd (h ▸ Gp hgt) h2
  refine Bw ?_
  rw [T5,Gj,Te,h1,Rm,Nat.sub_zero,<- hai,Sg (Qq _),List.take_length]
theorem Uma {s:Za} {c:UInt8} (hn:∀ j,j<s.size->s.data.toList.getD j 0≠c):(cut3 s ⟨#[c]⟩).1=s:=by
 have hl:s.data.toList.length=s.size:=Q8
 rcases Md s c with ⟨_,h1⟩ | ⟨a,b,h1,h2,h3⟩
 ·rw [h1]
 ·refine absurd ?_ (hn a.length (by rw [<- hl,h1]; simp))
  rw [h1,Qd,Rl (Qq _)]
  simp
theorem Qvk (b:UInt8) (k:UInt8):((b.toNat:Int)==(k.toNat:Int))=decide (b=k):=by
 rw [beqD]
 congr 1
 refine propext ⟨fun h=>?_,fun h=>by rw [h]⟩
 exact UInt8.toNat_inj.1 uu0
theorem Qje (s:Za):∀ (m i:Nat),i+m=s.size->(∀ j,j<i->s.data.toList.getD j 0≠35)->∀ fuel,m<fuel ->
  (runL (Ll s) fuel (i:Int)).fin (fun r=>r) (fun _=>s)=(cut3 s Zk).1
 | m,i,_,_,0,hf=>absurd hf (Sq _)
 | 0,i,h,hn,fuel+1,_=>by
  have h1:decide ((i:Int)<(s.size:Int))=false:=Qk uu0
  simp only [runL,Ll,h1,Qe]
  rw [Uma (fun j hj=>hn j uu0)]
  rfl
 | m+1,i,h,hn,fuel+1,hf=>by
  have h1:decide ((i:Int)<(s.size:Int))=true:=Qs uu0
  have h2:=Qvk (s.data.toList.getD i 0) 35
  have h3:((35:UInt8).toNat:Int)=35:=rfl
  rw [h3] at h2
  simp only [runL,Ll,h1,Qc,Rk,Wq,h2]
  by_cases hc:s.data.toList.getD i 0=35
  ·rw [Qs hc,Qc,cut_at uu0 hc hn]
   rfl
  ·rw [Qk hc,Qe]
   have:=Qje s m (i+1) uu0 (fun j hj=>by
    rcases Gm j i with h4 | h4
    ·exact hn j h4
    ·obtain rfl:j=i:=by omega
     exact hc) fuel uu0
   simpa using this
theorem as96 (line:Za):F96 line=((cut3 line Zk).1):=by
 unfold F96
 exact Qje line line.size 0 uu0 (fun j hj=>absurd hj (Sq _)) _ uu0
theorem Ulj (line:Za):((cut3 line Zk).1.size:Int)<=line.size:=Qep _ _
theorem Uby (line:Za) (h:line.size<=1048576):(cut3 line Zk).1.size<=1048576:=by
 have:=Qep line Zk
 omega
theorem oa96 (line:Za):(S96 (cut3 line Zk).1 line).ok Tryz.prog 96:=by
 intro hp; have h:=ok96 line hp; rw [as96 line] at h; exact h
theorem kc96a (line:Za) {K_:Prop} (p0_:line.size<=1048576) (q0_:line.size<=1048576) (k_:(((cut3 line Zk).1.size:Int)<=line.size)->((cut3 line Zk).1.size<=1048576)->K_):(line.size<=1048576)/\(Imp (.v (.string line)) (.v (.string line)))/\K_:=⟨p0_,Imp.refl _,k_ (Ulj line) (Uby line q0_)⟩
abbrev kh96a (line:Za):Hint true Tryz.prog:=.call 96 (S96 (cut3 line Zk).1 line) (oa96 line) none
def Jx (line:Za):(List Za×List Int×Int)->Lp (List Za×List Int×Int) (List Za×Bool):=fun (out,word,i40) =>
 bif (decide (i40<=((cut3 line Zk).1.size:Int))) then (bif (bif decide (i40<((cut3 line Zk).1.size:Int)) then (bif decide ((((cut3 line Zk).1.data.getD i40.toNat 0).toNat:Int)<32) then true else decide ((((cut3 line Zk).1.data.getD i40.toNat 0).toNat:Int)>126)) else false) then (.ret (([]:List Za),false)) else (bif (bif decide (i40<((cut3 line Zk).1.size:Int)) then ((((cut3 line Zk).1.data.getD i40.toNat 0).toNat:Int) != 32) else false) then (bif (decide (((word++[(((cut3 line Zk).1.data.getD i40.toNat 0).toNat:Int)]).length:Int)>24)) then (.ret (([]:List Za),false)) else (.next (out,(word++[(((cut3 line Zk).1.data.getD i40.toNat 0).toNat:Int)]),(i40+1)))) else (bif (decide ((word.length:Int)>0)) then (bif (decide (((out++[(Bf word)]).length:Int)>8)) then (.ret (([]:List Za),false)) else (.next ((out++[(Bf word)]),([]:List Int),(i40+1)))) else (.next (out,word,(i40+1)))))) else (.done (out,word,i40))
def F64 (line:Za):List Za×Bool :=
 (runL (Jx line) ((((cut3 line Zk).1.size:Int)-0+1).toNat+1) (([]:List Za),([]:List Int),0)).fin (fun r=>r) (fun (out,word,i40)=>(out,true))
abbrev Qht (line:Za):Nat×(List Za×List Int×Int):=(((((cut3 line Zk).1.size:Int)-0+1).toNat+1),(([]:List Za),([]:List Int),0))
abbrev Qsl (line:Za) (m39:Nat) (out:List Za) (word:List Int) (i40:Int):Prop:=Int.toNat (((cut3 line Zk).1.size:Int)-i40+1)<m39/\word.length<=24/\out.length<=8/\(0:Int)<=i40
abbrev Ubr (line:Za):Lp (List Za×List Int×Int) (List Za×Bool):=LpX (Jx line) (Qht line)
abbrev Qgr (line:Za) (i:Nat×(List Za×List Int×Int)):Prop:=LpJ (Jx line) (Qht line) i (Qsl line i.1 i.2.1 i.2.2.1 i.2.2.2)
abbrev Ubu (line:Za) (i:Nat×(List Za×List Int×Int)) (m39:Nat) (out:List Za) (word:List Int) (i40:Int):Prop:=LpH (Jx line) (Qht line) i m39 (out,word,i40) (Qsl line (m39+1) out word i40)
abbrev Uhl (line:Za) (out:List Za) (word:List Int) (i40:Int) (out_:List Za) (word_:List Int) (i40_:Int) (K39:Prop):Prop:=(Rf (.string (cut3 line Zk).1))/\((.int .i64 i40:Value)=.int .i64 i40_)/\(Imp (.l 1 eStr out) (.l 1 eStr out_))/\(Imp (.l 1 Xr word) (.l 1 Xr word_))/\K39
theorem un64_0 (line:Za) (i:Nat×(List Za×List Int×Int)) (h:Qgr line i):Ubu line i (i.1-1) i.2.1 i.2.2.1 i.2.2.2:=⟨hd1 h.1 h.2.1,hd3 h.2.1,hd2 h.2.1,h.2.2⟩
theorem Qsc (line:Za) (i:Nat×(List Za×List Int×Int)) (m39:Nat) (out:List Za) (word:List Int) (i40:Int) (hl:m39<i.1) (e:runL (Jx line) m39 (out,word,i40)=Ubr line) (h:Qsl line m39 out word i40):∃ j:Nat×(List Za×List Int×Int),Uhl line out word i40 j.2.1 j.2.2.1 j.2.2.2 (Qgr line j/\j.1<i.1):=⟨(m39,(out,word,i40)),rfl,rfl,Imp.refl _,Imp.refl _,⟨e,h⟩,hl⟩
theorem en64_0 (line:Za) (h:([]:List Int).length<=24/\([]:List Za).length<=8/\(0:Int)<=0):Uhl line ([]:List Za) ([]:List Int) 0 ([]:List Za) ([]:List Int) 0 (Qgr line (Qht line)):=⟨rfl,rfl,Imp.refl _,Imp.refl _,rfl,Qn _,h⟩
theorem fi64 (line:Za) (r:List Za×Bool) (hF:r=(F64 line)):(Imp (.l 1 eStr r.1) (.l 1 eStr (F64 line).1))/\((.bool r.2:Value)=.bool (F64 line).2)/\True:=by cases hF; exact ⟨Imp.refl _,rfl,trivial⟩
def S64 (line:Za):Spec:=⟨[.r (.c (.v (.string line)))],.tu [.ow (.l 1 eStr (F64 line).1),.v (.bool (F64 line).2)],line.size<=1048576⟩
theorem ok64 (line:Za):(S64 line).ok Tryz.prog 64 :=
 Ue mixed (fn:=Tryz.f64) (ct:=.seq .no (.seq (.reg [(1,kh96a line)]) (.seq (.reg [(0,.dat (.l 1 eStr ([]:List Za)))]) (.seq (.reg [(0,.dat (.l 1 Xr ([]:List Int)))]) (.seq (.seqk [(5,0),(6,0)] .no (.blk (.loop (ι:=Nat×(List Za×List Int×Int)) (fun i=>(fun (out:List Za) (word:List Int) (i40:Int)=>(⟨[(4,some (.v (.string (cut3 line Zk).1))),(5,some (.h 0 0)),(6,some (.h 1 0)),(7,some (.v (vI i40)))],[(0,some (.own 0 (.l 1 eStr out))),(1,some (.own 1 (.l 1 Xr word)))],2⟩:St)) i.2.1 i.2.2.1 i.2.2.2) (Qgr line) (fun i=>i.1) (Qht line) (fun i=>(fun (out:List Za) (word:List Int) (i40:Int)=>(.seq (.seq .no (.cond .no .no)) (.seq (.blk (.seq (.seq .no (.cond (.seq (.reg [(0,.dat (.l 1 eStr ([]:List Za)))]) .no) .no)) (.seq (.seq .no (.cond (.seq (.reg [(5,.dat (.l 1 Xr (word++[(((cut3 line Zk).1.data.getD i40.toNat 0).toNat:Int)])))]) (.seq (.seq .no (.cond (.seq (.reg [(0,.dat (.l 1 eStr ([]:List Za)))]) .no) .no)) .no)) .no)) (.seq .no (.cond (.seq (.reg [(2,.str (Bf word)),(4,.dat (.l 1 eStr (out++[(Bf word)])))]) (.seq (.reg [(0,.dat (.l 1 Xr ([]:List Int)))]) (.seq .no (.cond (.seq (.reg [(0,.dat (.l 1 eStr ([]:List Za)))]) .no) .no)))) .no))))) (.reg [(1,.bnd)])))) i.2.1 i.2.2.1 i.2.2.2)))) (.seq .no .no)))))) Tryz.func64 (fun (hpre0:line.size<=1048576)=>kc96a line uu3 uu3 (fun gv1 gv2=>ai (bokr 1 eStr ([]:List Za) fun _=>rfl) (ai (bokr 1 Xr ([]:List Int) fun _=>rfl) (kn ([]:List Za) fun _=>kn ([]:List Int) fun _=>ai (en64_0 line uu20) (fun (i0:Nat×(List Za×List Int×Int)) (hi0:Qgr line i0)=>(fun (m0:Nat) (out:List Za) (word:List Int) (i40:Int) (hh0:Ubu line i0 m0 out word i40)=>have hI0:=hh0.1; have hl0:=hh0.2.1; have _:=hh0.2.2.1; have _:=hh0.2.2.2; ifd (i40<=((cut3 line Zk).1.size:Int)) (fun h4 _=>ai (fun k5:(decide (i40<((cut3 line Zk).1.size:Int)))=true=>have _:i40<((cut3 line Zk).1.size:Int):=Qb k5; (uu3:0<=i40/\i40<((cut3 line Zk).1.size:Int))) (ai (fun k7:(decide ((((cut3 line Zk).1.data.getD i40.toNat 0).toNat:Int)<32))=false=>have _:¬ (((cut3 line Zk).1.data.getD i40.toNat 0).toNat:Int)<32:=Qp k7; (fun k6:(decide (i40<((cut3 line Zk).1.size:Int)))=true=>have _:i40<((cut3 line Zk).1.size:Int):=Qb k6; (uu3:0<=i40/\i40<((cut3 line Zk).1.size:Int)))) (ifb (bif decide (i40<((cut3 line Zk).1.size:Int)) then (bif decide ((((cut3 line Zk).1.data.getD i40.toNat 0).toNat:Int)<32) then true else decide ((((cut3 line Zk).1.data.getD i40.toNat 0).toNat:Int)>126)) else false) (fun h8=>have _:i40<((cut3 line Zk).1.size:Int):=Qb (Uc h8); ai (bokr 1 eStr ([]:List Za) fun _=>rfl) (fi64 line (([]:List Za),false) (finR (Um hI0 (condT h4 (condT h8 rfl))) rfl))) (fun h8=>ai (fun k9:(decide (i40<((cut3 line Zk).1.size:Int)))=true=>have _:i40<((cut3 line Zk).1.size:Int):=Qb k9; (uu3:0<=i40/\i40<((cut3 line Zk).1.size:Int))) (ifb (bif decide (i40<((cut3 line Zk).1.size:Int)) then ((((cut3 line Zk).1.data.getD i40.toNat 0).toNat:Int) != 32) else false) (fun h10=>have _:i40<((cut3 line Zk).1.size:Int):=Qb (Uc h10); have _:¬ (((cut3 line Zk).1.data.getD i40.toNat 0).toNat:Int)=32:=bneT (Ut h10); ai (uu3:0<=i40/\i40<((cut3 line Zk).1.size:Int)) (ai (AppA.mk Xr word [(((cut3 line Zk).1.data.getD i40.toNat 0).toNat:Int)] (Imp.refl (.l 1 Xr word)) rfl (by exact ai (Imp.u8 (by first | exact u8a _ | exact u8m _ | exact u8w _)) trivial) (fun _=>rfl):AppA (.l 1 Xr word) 1 1 [.v (.int .u8 (((cut3 line Zk).1.data.getD i40.toNat 0).toNat:Int))] (.l 1 Xr (word++[(((cut3 line Zk).1.data.getD i40.toNat 0).toNat:Int)]))) (ai (uu21:(word++[(((cut3 line Zk).1.data.getD i40.toNat 0).toNat:Int)]).length*1<=140737488355328) (ifd (((word++[(((cut3 line Zk).1.data.getD i40.toNat 0).toNat:Int)]).length:Int)>24) (fun h11 _=>ai (bokr 1 eStr ([]:List Za) fun _=>rfl) (fi64 line (([]:List Za),false) (finR (Um hI0 (condT h4 (condF h8 (condT h10 (condT h11 rfl))))) rfl))) (fun h11 _=>ai (iok (i40+1) uu3) (Qsc line i0 m0 out (word++[(((cut3 line Zk).1.data.getD i40.toNat 0).toNat:Int)]) (i40+1) hl0 (Ud hI0 (condT h4 (condF h8 (condT h10 (condF h11 rfl))))) uu46)))))) (fun h10=>ifd ((word.length:Int)>0) (fun h12 _=>ai (ConvOK.mk Xr word (fun x=>x%256) (fun _=>rfl):ConvOK (.l 1 Xr word) (Bf word)) (ai (appr 1 eStr out [(Bf word)] fun _=>rfl) (ai (uu21:(out++[(Bf word)]).length*16<=140737488355328) (ai (bokr 1 Xr ([]:List Int) fun _=>rfl) (ifd (((out++[(Bf word)]).length:Int)>8) (fun h13 _=>ai (bokr 1 eStr ([]:List Za) fun _=>rfl) (fi64 line (([]:List Za),false) (finR (Um hI0 (condT h4 (condF h8 (condF h10 (condT h12 (condT h13 rfl)))))) rfl))) (fun h13 _=>ai (iok (i40+1) uu3) (Qsc line i0 m0 (out++[(Bf word)]) ([]:List Int) (i40+1) hl0 (Ud hI0 (condT h4 (condF h8 (condF h10 (condT h12 (condF h13 rfl)))))) uu46))))))) (fun h12 _=>ai (iok (i40+1) uu3) (Qsc line i0 m0 out word (i40+1) hl0 (Ud hI0 (condT h4 (condF h8 (condF h10 (condF h12 rfl))))) uu46)))))))) (fun h4 _=>have hD0_14:Ubr line=Lp.done (out,word,i40):=Uh hI0 (condF h4 rfl); fi64 line (out,true) (finD hD0_14 rfl))) (i0.1-1) i0.2.1 i0.2.2.1 i0.2.2.2 (un64_0 line i0 hi0)))))) uu1
def Yh (l:List UInt8):List (List UInt8):=(Uz 32 l).filter fun w=>!w.isEmpty
def okB (b:UInt8):Bool:=decide (32<=b.toNat/\b.toNat<=126)
def mkB (l:List UInt8):Za:=⟨l.toArray⟩
theorem Qey (l:List UInt8):(mkB l).data.toList=l:=rfl
theorem Qhd (s:Za):mkB s.data.toList=s:=Bw rfl
def fitW (ws:List (List UInt8)):Bool:=decide (ws.length<=8)&&ws.all fun w=>decide (w.length<=24)
def Xm (l:List UInt8):List Za×Bool:=bif l.all okB&&fitW (Yh l) then ((Yh l).map mkB,true) else ([],false)
def Vf (w:List UInt8):List Int:=w.map fun b=>(b.toNat:Int)
theorem Qbr (w:List UInt8):(Vf w).length=w.length:=by simp [Vf]
theorem Qdb (w:List UInt8):Bf (Vf w)=mkB w:=by
 refine Bw ?_
 show ((List.map (fun x=>x%256) (Vf w)).map fun n=>UInt8.ofNat n.toNat)=w
 rw [Gn,Vf,Gn]
 refine (T2 (g:=id) fun b _=>?_).trans (G5 w)
 have h:=b.toNat_lt
 have e:((b.toNat:Int)%256).toNat=b.toNat:=by omega
 simp only [Function.comp_apply,e,id]
 exact UInt8.ofNat_toNat
def Qal:List UInt8->List Za->List UInt8->List Za×Bool
 | [],out,w=>if w=[] then (out,true) else if out.length+1>8 then ([],false) else (out++[mkB w],true)
 | b :: l,out,w=>if okB b=false then ([],false) else if b=32 then (if w=[] then Qal l out w else if out.length+1>8 then ([],false) else Qal l (out++[mkB w]) [])
  else if w.length+1>24 then ([],false) else Qal l out (w++[b])
theorem Qcm (c:UInt8):∀ (l w:List UInt8),c ∉ w->∃ p ps,Uz c (w++l)=(w++p) :: ps
 | [],w,h=>⟨[],[],by rw [So,Yx h]⟩
 | b :: l,w,h=>by
  by_cases hb:b=c
  ·subst hb
   exact ⟨[],Uz b l,by rw [Ki l h,So]⟩
  ·obtain ⟨p,ps,e⟩:=Qcm c l (w++[b]) (fun hm=>by
    rcases Q6.1 hm with h1 | h1
    ·exact h h1
    ·exact hb (Qw.1 h1).symm)
   exact ⟨b :: p,ps,by rw [<- List.singleton_append,<- Q1,e,Q1]; rfl⟩
theorem Pa:∀ (l:List UInt8) (out:List Za) (w:List UInt8),(32:UInt8) ∉ w->w.length<=24->out.length<=8 ->
  Qal l out w=bif l.all okB&&(decide (out.length+(Yh (w++l)).length<=8)&&(Yh (w++l)).all fun x=>decide (x.length<=24)) then (out++(Yh (w++l)).map mkB,true) else ([],false)
 | [],out,w,hw,h24,h8=>by
  have e:Yh (w++[])=if w=[] then [] else [w]:=by
   rw [So,Yh,Yx hw]
   cases w <;> rfl
  rw [e,Qal]
  by_cases h:w=[]
  ·rw [if_pos h,if_pos h]
   have e2:decide (out.length+([]:List (List UInt8)).length<=8)=true:=Qs (by simpa using h8)
   rw [e2,G3,So]; rfl
  ·rw [if_neg h,if_neg h]
   by_cases h1:out.length+1>8
   ·rw [if_pos h1]
    have:decide (out.length+[w].length<=8)=false:=Qk (by simp only [Q4,Se]; omega)
    rw [this]; rfl
   ·rw [if_neg h1]
    have:decide (out.length+[w].length<=8)=true:=Qs (by simp only [Q4,Se]; omega)
    rw [this,Rr,Qs h24]; rfl
 | b :: l,out,w,hw,h24,h8=>by
  rw [Qal,Rr]
  cases hb:okB b with
  | false=>rw [if_pos rfl]; rfl
  | true =>
   rw [if_neg uu16,Sc]
   by_cases h32:b=32
   ·subst h32
    rw [if_pos rfl]
    have e:Yh (w++32 :: l)=if w=[] then Yh l else w :: Yh l:=by
     rw [Yh,Ki l hw,Gy]
     cases w <;> rfl
    rw [e]
    by_cases h:w=[]
    ·rw [if_pos h,if_pos h,h,Pa l out [] uu16 uu16 h8,R3]
    ·rw [if_neg h,if_neg h]
     by_cases h1:out.length+1>8
     ·rw [if_pos h1]
      have:decide (out.length+(w :: Yh l).length<=8)=false:=Qk uu32
      rw [this,Sr,Sa]; rfl
     ·rw [if_neg h1,Pa l (out++[mkB w]) [] uu16 uu16 uu47,R3]
      have e1:(out++[mkB w]).length+(Yh l).length=out.length+(w :: Yh l).length:=by simp only [Ri,Q4,Se]; omega
      rw [e1,Rr,Qs h24,Sc,Rb,Q1]
      rfl
   ·rw [if_neg h32]
    have hw':(32:UInt8) ∉ w++[b]:=fun hm=>by
     rcases Q6.1 hm with h1 | h1
     ·exact hw h1
     ·exact h32 (Qw.1 h1).symm
    have e2:w++b :: l=(w++[b])++l:=by rw [Q1]; rfl
    by_cases h1:w.length+1>24
    ·rw [if_pos h1]
     obtain ⟨p,ps,e⟩:=Qcm 32 l (w++[b]) hw'
     have e3:(Yh (w++b :: l)).all (fun x=>decide (x.length<=24))=false:=by
      rw [e2,Yh,e,Gy]
      have hne:(!((w++[b])++p).isEmpty)=true:=by cases w <;> rfl
      rw [if_pos hne,Rr,Qk uu47]
      rfl
     rw [e3,Sa,Sa]; rfl
    ·rw [if_neg h1,Pa l out (w++[b]) hw' uu47 h8,e2]
theorem Kc {σ ρ:Type} {step:σ->Lp σ ρ} {s s':σ} (m:Nat) (h:step s=.next s'):runL step (m+1) s=runL step m s':=by
 rw [runL,h]
theorem Vb {σ ρ:Type} {step:σ->Lp σ ρ} {s s':σ} (m:Nat) (h:step s=.done s'):runL step (m+1) s=.done s':=by
 rw [runL,h]
theorem Wm {σ ρ:Type} {step:σ->Lp σ ρ} {s:σ} {r:ρ} (m:Nat) (h:step s=.ret r):runL step (m+1) s=.ret r:=by
 rw [runL,h]
theorem Qxk {w:List UInt8} (hw:¬ w=[]):decide ((w.length:Int)>0)=true:=by
 cases w with
 | nil=>exact absurd rfl hw
 | cons a w=>exact Qs uu32
theorem Ugn (line s:Za) (hs:(cut3 line Zk).1=s) (out:List Za) (w:List UInt8):Jx line (out,Vf w,(s.size:Int)) =
  if w=[] then .next (out,Vf [],(s.size:Int)+1) else if out.length+1>8 then .ret ([],false) else .next (out++[mkB w],Vf [],(s.size:Int)+1):=by
 have h0:decide ((s.size:Int)<=(s.size:Int))=true:=Qs uu0
 have h1:decide ((s.size:Int)<(s.size:Int))=false:=Qk uu0
 simp only [Jx,hs,h0,h1,Qc,Qe,Qdb,Qbr,Ri,Q4,Se]
 by_cases hw:w=[]
 ·subst hw; rfl
 ·rw [Qxk hw,if_neg hw,Qc]
  by_cases h8:out.length+1>8
  ·have:decide (((out.length+(0+1):Nat):Int)>8)=true:=Qs uu0
   rw [this,if_pos h8]; rfl
  ·have:decide (((out.length+(0+1):Nat):Int)>8)=false:=Qk uu0
   rw [this,if_neg h8]; rfl
theorem Qom (line s:Za) (hs:(cut3 line Zk).1=s) (out:List Za) (w:List Int):Jx line (out,w,(s.size:Int)+1)=.done (out,w,(s.size:Int)+1):=by
 have h0:decide ((s.size:Int)+1<=(s.size:Int))=false:=Qk uu0
 simp only [Jx,hs,h0,Qe]
theorem Ugq (line s:Za) (hs:(cut3 line Zk).1=s) (out:List Za) (w:List UInt8) (i:Nat) (hi:i<s.size) (b:UInt8) (hb:s.data.toList.getD i 0=b):Jx line (out,Vf w,(i:Int)) =
  if okB b=false then .ret ([],false) else if b=32 then (if w=[] then .next (out,Vf [],(i:Int)+1) else if out.length+1>8 then .ret ([],false) else .next (out++[mkB w],Vf [],(i:Int)+1))
  else if w.length+1>24 then .ret ([],false) else .next (out,Vf (w++[b]),(i:Int)+1):=by
 have h0:decide ((i:Int)<=(s.size:Int))=true:=Qs uu0
 have h1:decide ((i:Int)<(s.size:Int))=true:=Qs uu0
 simp only [Jx,hs,h0,h1,Qc,Rk,Wq,hb]
 have hok:(bif decide ((b.toNat:Int)<32) then true else decide ((b.toNat:Int)>126))=!okB b:=by
  unfold okB
  by_cases h3:(b.toNat:Int)<32
  ·rw [Qs h3,Qc,Qk uu0]; rfl
  ·rw [Qk h3,Qe]
   by_cases h4:(b.toNat:Int)>126
   ·rw [Qs h4,Qk uu0]; rfl
   ·rw [Qk h4,Qs uu0]; rfl
 rw [hok]
 cases okB b with
 | false=>rfl
 | true =>
  have h32:=Qvk b 32
  have h33:((32:UInt8).toNat:Int)=32:=rfl
  rw [h33] at h32
  have h34:((b.toNat:Int) != 32)=!decide (b=32):=by rw [bne,h32]
  rw [h34]
  simp only [Sv,Qe,Bool.true_eq_false,Gx]
  by_cases hc:b=32
  ·rw [Qs hc,if_pos hc]
   simp only [Sv,Qe,Qdb,Qbr,Ri,Q4,Se]
   by_cases hw:w=[]
   ·subst hw; rfl
   ·rw [Qxk hw,if_neg hw,Qc]
    by_cases h8:out.length+1>8
    ·have:decide (((out.length+(0+1):Nat):Int)>8)=true:=Qs uu0
     rw [this,if_pos h8]; rfl
    ·have:decide (((out.length+(0+1):Nat):Int)>8)=false:=Qk uu0
     rw [this,if_neg h8]; rfl
  ·rw [Qk hc,if_neg hc]
   simp only [Gh,Qc,Qbr,Ri,Q4,Se]
   by_cases h24:w.length+1>24
   ·have:decide (((w.length+(0+1):Nat):Int)>24)=true:=Qs uu0
    rw [this,if_pos h24]; rfl
   ·have:decide (((w.length+(0+1):Nat):Int)>24)=false:=Qk uu0
    rw [this,if_neg h24,Qe]
    have e:Vf (w++[b])=Vf w++[(b.toNat:Int)]:=by simp [Vf]
    rw [e]
theorem Ly (line s:Za) (hs:(cut3 line Zk).1=s):∀ (m i:Nat) (out:List Za) (w:List UInt8),i+m=s.size->∀ fuel,m+1<fuel ->
  (runL (Jx line) fuel (out,Vf w,(i:Int))).fin (fun r=>r) (fun (out,word,i40)=>(out,true))=Qal (s.data.toList.drop i) out w
 | m,i,out,w,_,0,hf=>absurd hf (Sq _)
 | 0,i,out,w,h,fuel+1,hf=>by
  have hl:s.data.toList.length=s.size:=Q8
  obtain rfl:i=s.size:=by omega
  obtain ⟨fuel,rfl⟩:∃ f,fuel=f+1:=⟨fuel-1,by omega⟩
  rw [Q7 uu0,Qal]
  have h1:=Ugn line s hs out w
  by_cases hw:w=[]
  ·rw [if_pos hw] at h1 ⊢
   rw [Kc _ h1,Vb _ (Qom line s hs _ _)]; rfl
  ·rw [if_neg hw] at h1 ⊢
   by_cases h8:out.length+1>8
   ·rw [if_pos h8] at h1 ⊢
    rw [Wm _ h1]; rfl
   ·rw [if_neg h8] at h1 ⊢
    rw [Kc _ h1,Vb _ (Qom line s hs _ _)]; rfl
 | m+1,i,out,w,h,fuel+1,hf=>by
  have hl:s.data.toList.length=s.size:=Q8
  have hb:s.data.toList.drop i=s.data.toList.getD i 0 :: s.data.toList.drop (i+1):=by
   rw [Rg uu0,Qd,Qh uu0]; rfl
  rw [hb,Qal]
  have h1:=Ugq line s hs out w i uu0 _ rfl
  generalize s.data.toList.getD i 0=b at h1 ⊢
  have ei:((i:Int)+1)=((i+1:Nat):Int):=rfl
  rw [ei] at h1
  by_cases hok:okB b=false
  ·rw [if_pos hok] at h1 ⊢
   rw [Wm _ h1]; rfl
  ·rw [if_neg hok] at h1 ⊢
   by_cases hc:b=32
   ·rw [if_pos hc] at h1 ⊢
    by_cases hw:w=[]
    ·rw [if_pos hw] at h1 ⊢
     rw [Kc _ h1,hw]
     exact Ly line s hs m (i+1) out [] uu0 fuel uu0
    ·rw [if_neg hw] at h1 ⊢
     by_cases h8:out.length+1>8
     ·rw [if_pos h8] at h1 ⊢
      rw [Wm _ h1]; rfl
     ·rw [if_neg h8] at h1 ⊢
      rw [Kc _ h1]
      exact Ly line s hs m (i+1) (out++[mkB w]) [] uu0 fuel uu0
   ·rw [if_neg hc] at h1 ⊢
    by_cases h24:w.length+1>24
    ·rw [if_pos h24] at h1 ⊢
     rw [Wm _ h1]; rfl
    ·rw [if_neg h24] at h1 ⊢
     rw [Kc _ h1]
     exact Ly line s hs m (i+1) out (w++[b]) uu0 fuel uu0
theorem Qdy (line:Za):F64 line=Xm (cut3 line Zk).1.data.toList:=by
 unfold F64
 have:=Ly line _ rfl (cut3 line Zk).1.size 0 [] [] uu0 (Int.toNat (((cut3 line Zk).1.size:Int)-0+1)+1) uu0
 rw [Rm,Pa _ _ _ uu16 uu16 uu16,R3,R3,Se,Rs] at this
 exact this
theorem Qlp (b:UInt8):IntKind.i64.wrap ((b.toNat:Int))=(b.toNat:Int):=by
 have h:=b.toNat_lt
 exact Wg uu0 uu0
theorem Qjd (line s:Za) (hs:(cut3 line Zk).1=s) {τ:Type} (f:List Za×Bool->τ) (g:Int->τ) (y:τ) (hg:∀ i,g i=y):∀ (m i:Nat),i+m=s.size->∀ fuel,m<fuel ->
  (runL (Jq line) fuel (i:Int)).fin f g=bif (s.data.toList.drop i).all okB then y else f ([],false)
 | m,i,_,0,hf=>absurd hf (Sq _)
 | 0,i,h,fuel+1,hf=>by
  have hl:s.data.toList.length=s.size:=Q8
  have h1:decide ((i:Int)<(s.size:Int))=false:=Qk uu0
  have hst:Jq line (i:Int)=.done (i:Int):=by
   simp only [Jq,F34,hs,h1,Qe]
  rw [Q7 uu0,Vb _ hst]
  exact hg _
 | m+1,i,h,fuel+1,hf=>by
  have hl:s.data.toList.length=s.size:=Q8
  have h1:decide ((i:Int)<(s.size:Int))=true:=Qs uu0
  have hb:s.data.toList.drop i=s.data.toList.getD i 0 :: s.data.toList.drop (i+1):=by
   rw [Rg uu0,Qd,Qh uu0]; rfl
  have hst:Jq line (i:Int)=if okB (s.data.toList.getD i 0)=false then .ret ([],false) else .next ((i+1:Nat):Int):=by
   simp only [Jq,F34,hs,h1,Qc,Rk,Wq,Qlp]
   generalize s.data.toList.getD i 0=b
   have e:decide ((32:Int)<=(b.toNat:Int)/\(b.toNat:Int)<=126)=okB b:=by
    unfold okB
    congr 1
    exact propext ⟨fun h=>by omega,fun h=>by omega⟩
   rw [e]
   cases okB b <;> rfl
  rw [hb,Rr]
  generalize s.data.toList.getD i 0=b at hst ⊢
  by_cases hok:okB b=false
  ·rw [if_pos hok] at hst
   rw [Wm _ hst,hok]; rfl
  ·rw [if_neg hok] at hst
   rw [Kc _ hst,Qjd line s hs f g y hg m (i+1) uu0 fuel uu0]
   cases ho:okB b with
   | false=>exact absurd ho hok
   | true=>rw [Sc]
theorem isE (x:Za):(x.toList==Zi.toList)=x.data.toList.isEmpty:=by
 rw [Yd,Yd]
 cases x.data.toList <;> rfl
theorem Qlx (s:Za):(Uv s Ze).filter (fun x=>!(x.toList==Zi.toList))=(Yh s.data.toList).map mkB:=by
 rw [Yh,<- Qho,Gv,Gn]
 have e:(fun x:Za=>!(x.toList==Zi.toList))=((fun w:List UInt8=>!w.isEmpty) ∘ fun x:Za=>x.data.toList):=by
  funext x
  rw [isE]; rfl
 rw [e]
 exact ((T2 fun x _=>Qhd x).trans (G5 _)).symm
theorem Qnv:∀ ws:List (List UInt8),ws.any ((fun x:Za=>decide ((x.size:Int)>24)) ∘ mkB)=!ws.all fun w=>decide (w.length<=24)
 | []=>rfl
 | w :: ws=>by
  rw [Th,Rr,Qnv ws,Bool.not_and]
  congr 1
  have:(mkB w).size=w.length:=rfl
  show decide (((mkB w).size:Int)>24)=_
  rw [this]
  by_cases h:w.length<=24
  ·rw [Qs h,Qk uu0]; rfl
  ·rw [Qk h,Qs uu0]; rfl
theorem Nm (line:Za):F133 line=Xm (cut3 line Zk).1.data.toList:=by
 generalize hs:(cut3 line Zk).1=s
 unfold F133
 have h1:=Qjd line s hs (fun r=>r) (fun _=>bif (bif decide ((((Yh s.data.toList).map mkB).length:Int)>8) then true else ((Yh s.data.toList).map mkB).any fun x=>decide ((x.size:Int)>24)) then (([]:List Za),false) else ((Yh s.data.toList).map mkB,true)) _ (fun _=>rfl) s.size 0 uu0 (Int.toNat ((s.size:Int)-0)+1) uu0
 have hf:(Uv s Ze).filter (fun x=>!F176 x)=(Yh s.data.toList).map mkB:=Qlx s
 simp only [F34,F70,hs,hf]
 refine h1.trans ?_
 rw [Rm,Xm,fitW,Sk,Gq]
 have e1:decide (((Yh s.data.toList).length:Int)>8)=!decide ((Yh s.data.toList).length<=8):=by
  by_cases h:(Yh s.data.toList).length<=8
  ·rw [Qs h,Qk uu0]; rfl
  ·rw [Qk h,Qs uu0]; rfl
 rw [e1,Qnv]
 cases (s.data.toList.all okB) <;> cases decide ((Yh s.data.toList).length<=8) <;> cases ((Yh s.data.toList).all fun w=>decide (w.length<=24)) <;> rfl
theorem Nq (line:Za):F133 line=F64 line:=(Nm line).trans (Qdy line).symm
theorem Qpo (l:List UInt8):(Xm l).1.length<=8:=by
 unfold Xm fitW
 by_cases h:(Yh l).length<=8
 ·cases l.all okB <;> cases ((Yh l).all fun w=>decide (w.length<=24)) <;> simp [h]
 ·rw [Qk h,Sr,Sa]
  exact Qy _
theorem Qiw (line:Za):(F133 line).1.length<=8:=by
 rw [Nm]; exact Qpo _
def Jl (s:Za) (at':Int):(List Za×Int×Int)->Lp (List Za×Int×Int) (List Za):=fun (out1,from'1,i40) =>
 bif (decide (i40<(s.size:Int))) then (bif (((s.data.getD i40.toNat 0).toNat:Int)==(at'%256)) then (.next ((out1++[(s.extract (Int.toNat from'1) i40.toNat)]),(i40+1),(i40+1))) else (.next (out1,from'1,(i40+1)))) else (.done (out1,from'1,i40))
def Qen (s:Za) (at':Int):Lp (List Za×Int) (List Za) :=
 (runL (Jl s at') (((s.size:Int)-0).toNat+1) (([]:List Za),0,0)).fin Lp.ret (fun (out1,from'1,i40)=>.done (out1,from'1))
def F32 (s:Za) (at':Int):List Za :=
 (Qen s at').fin (fun r=>r) (fun (out,from')=>(out++[(s.extract from'.toNat (s.size:Int).toNat)]))
abbrev Qfi (s:Za):Nat×(List Za×Int×Int):=((((s.size:Int)-0).toNat+1),(([]:List Za),0,0))
abbrev Qsq (s:Za) (m39:Nat) (out1:List Za) (from'1:Int) (i40:Int):Prop:=Int.toNat ((s.size:Int)-i40)<m39/\(0:Int)<=from'1/\(from'1:Int)<=i40/\(out1.length:Int)<=i40/\i40<=(s.size:Int)/\(0:Int)<=from'1/\(0:Int)<=i40
abbrev Ugk (s:Za) (at':Int):Lp (List Za×Int×Int) (List Za):=LpX (Jl s at') (Qfi s)
abbrev Qfo (s:Za) (at':Int) (i:Nat×(List Za×Int×Int)):Prop:=LpJ (Jl s at') (Qfi s) i (Qsq s i.1 i.2.1 i.2.2.1 i.2.2.2)
abbrev Ueo (s:Za) (at':Int) (i:Nat×(List Za×Int×Int)) (m39:Nat) (out1:List Za) (from'1:Int) (i40:Int):Prop:=LpH (Jl s at') (Qfi s) i m39 (out1,from'1,i40) (Qsq s (m39+1) out1 from'1 i40)
abbrev Uhd (s:Za) (at':Int) (out1:List Za) (from'1:Int) (i40:Int) (out1_:List Za) (from'1_:Int) (i40_:Int) (K39:Prop):Prop:=(Rf (.string s))/\(Rf (.int .u8 (at'%256)))/\((.int .i64 from'1:Value)=.int .i64 from'1_)/\((.int .i64 i40:Value)=.int .i64 i40_)/\(Imp (.l 1 eStr out1) (.l 1 eStr out1_))/\K39
theorem un32_0 (s:Za) (at':Int) (i:Nat×(List Za×Int×Int)) (h:Qfo s at' i):Ueo s at' i (i.1-1) i.2.1 i.2.2.1 i.2.2.2:=⟨hd1 h.1 h.2.1,hd3 h.2.1,hd2 h.2.1,h.2.2⟩
theorem Uhc (s:Za) (at':Int) (i:Nat×(List Za×Int×Int)) (m39:Nat) (out1:List Za) (from'1:Int) (i40:Int) (hl:m39<i.1) (e:runL (Jl s at') m39 (out1,from'1,i40)=Ugk s at') (h:Qsq s m39 out1 from'1 i40):∃ j:Nat×(List Za×Int×Int),Uhd s at' out1 from'1 i40 j.2.1 j.2.2.1 j.2.2.2 (Qfo s at' j/\j.1<i.1):=⟨(m39,(out1,from'1,i40)),rfl,rfl,rfl,rfl,Imp.refl _,⟨e,h⟩,hl⟩
theorem en32_0 (s:Za) (at':Int) (h:(0:Int)<=0/\(0:Int)<=0/\(([]:List Za).length:Int)<=0/\0<=(s.size:Int)/\(0:Int)<=0/\(0:Int)<=0):Uhd s at' ([]:List Za) 0 0 ([]:List Za) 0 0 (Qfo s at' (Qfi s)):=⟨rfl,rfl,rfl,rfl,Imp.refl _,rfl,Qn _,h⟩
abbrev Qry (s:Za) (at':Int) (out:List Za) (from':Int):Prop:=(0:Int)<=from'/\from'<=(s.size:Int)/\(out.length:Int)<=(s.size:Int)
abbrev Qqj (s:Za) (at':Int) (j:List Za×Int):Prop:=(Qen s at')=Lp.done j/\Qry s at' j.1 j.2
theorem jn32_0 (s:Za) (at':Int) (out:List Za) (from':Int) (e:(Qen s at')=Lp.done (out,from')) (h:Qry s at' out from'):∃ j:List Za×Int,((.string s:Value)=.string s)/\((.int .i64 from':Value)=.int .i64 j.2)/\(Imp (.l 1 eStr out) (.l 1 eStr j.1))/\Qqj s at' j:=⟨(out,from'),rfl,rfl,Imp.refl _,e,h⟩
theorem fi32 (s:Za) (at':Int) (r:List Za) (hF:r=(F32 s at')):(Imp (.l 1 eStr r) (.l 1 eStr (F32 s at')))/\True:=by cases hF; exact ⟨Imp.refl _,trivial⟩
def S32 (s:Za) (at':Int):Spec:=⟨[.r (.c (.v (.string s))),.r (.c (.v (.int .u8 (at'%256))))],.ow (.l 1 eStr (F32 s at')),s.size<=1048576⟩
theorem ok32 (s:Za) (at':Int):(S32 s at').ok Tryz.prog 32 :=
 Ue mixed (fn:=Tryz.f32) (ct:=.seq .no (.seq (.reg [(0,.dat (.l 1 eStr ([]:List Za)))]) (.seq .no (.cut (ι:=List Za×Int) (fun j=>(fun (out:List Za) (from':Int)=>(⟨[(0,some (.v (.string s))),(5,some (.h 0 0)),(6,some (.v (vI from')))],[(0,some (.own 0 (.l 1 eStr out)))],1⟩:St)) j.1 j.2) (Qqj s at') (.seqk [(5,0)] .no (.blk (.loop (ι:=Nat×(List Za×Int×Int)) (fun i=>(fun (out1:List Za) (from'1:Int) (i40:Int)=>(⟨[(0,some (.v (.string s))),(1,some (.v (.int .u8 (at'%256)))),(5,some (.h 0 0)),(6,some (.v (vI from'1))),(7,some (.v (vI i40)))],[(0,some (.own 0 (.l 1 eStr out1)))],1⟩:St)) i.2.1 i.2.2.1 i.2.2.2) (Qfo s at') (fun i=>i.1) (Qfi s) (fun i=>(fun (out1:List Za) (from'1:Int) (i40:Int)=>(.seq (.seq .no (.cond .no .no)) (.seq (.blk (.seq .no (.cond (.seq (.reg [(6,.dat (.l 1 eStr (out1++[(s.extract (Int.toNat from'1) i40.toNat)])))]) (.reg [(1,.bnd)])) .no))) (.reg [(1,.bnd)])))) i.2.1 i.2.2.1 i.2.2.2)))) (fun j=>(fun (out:List Za) (from':Int)=>(.seq (.reg [(5,.dat (.l 1 eStr (out++[(s.extract from'.toNat (s.size:Int).toNat)])))]) .no)) j.1 j.2))))) Tryz.func32 (fun (hpre0:s.size<=1048576)=>ai (bokr 1 eStr ([]:List Za) fun _=>rfl) (ai (kn ([]:List Za) fun _=>ai (en32_0 s at' (by refine ⟨?_,?_,?_,?_,?_,?_⟩ <;> first | omega | (simp only [lens,ib] at*<;> omega))) (fun (i0:Nat×(List Za×Int×Int)) (hi0:Qfo s at' i0)=>(fun (m0:Nat) (out1:List Za) (from'1:Int) (i40:Int) (hh0:Ueo s at' i0 m0 out1 from'1 i40)=>have hI0:=hh0.1; have hl0:=hh0.2.1; have _:=hh0.2.2.1; have _:=hh0.2.2.2; ifd (i40<(s.size:Int)) (fun h2 _=>ai (uu3:0<=i40/\i40<(s.size:Int)) (ife ((s.data.getD i40.toNat 0).toNat:Int) (at'%256) (fun h3 _=>ai (uu3:0<=from'1/\from'1<=i40/\i40<=(s.size:Int)) (ai (appr 1 eStr out1 [(s.extract (Int.toNat from'1) i40.toNat)] fun _=>rfl) (ai (uu21:(out1++[(s.extract (Int.toNat from'1) i40.toNat)]).length*16<=140737488355328) (ai (iok (i40+1) uu3) (ai (iok (i40+1) uu3) (Uhc s at' i0 m0 (out1++[(s.extract (Int.toNat from'1) i40.toNat)]) (i40+1) (i40+1) hl0 (Ud hI0 (condT h2 (condT h3 rfl))) uu54)))))) (fun h3 _=>ai (iok (i40+1) uu3) (Uhc s at' i0 m0 out1 from'1 (i40+1) hl0 (Ud hI0 (condT h2 (condF h3 rfl))) uu54)))) (fun h2 _=>have hD0_4:Ugk s at'=Lp.done (out1,from'1,i40):=Uh hI0 (condF h2 rfl); jn32_0 s at' out1 from'1 (G6 (finD hD0_4 rfl)) uu20)) (i0.1-1) i0.2.1 i0.2.2.1 i0.2.2.2 (un32_0 s at' i0 hi0))) (fun (j:List Za×Int) (hj:Qqj s at' j)=>(fun (out:List Za) (from':Int) (hJ0_5:(Qen s at')=Lp.done (out,from')) (hw:Qry s at' out from')=>have _:=hw.1; have _:=hw.2.1; have _:=hw.2.2; ai (uu3:0<=from'/\from'<=(s.size:Int)/\(s.size:Int)<=(s.size:Int)) (ai (appr 1 eStr out [(s.extract from'.toNat (s.size:Int).toNat)] fun _=>rfl) (ai (uu21:(out++[(s.extract from'.toNat (s.size:Int).toNat)]).length*16<=140737488355328) (fi32 s at' (out++[(s.extract from'.toNat (s.size:Int).toNat)]) (finD hJ0_5 rfl))))) j.1 j.2 hj.1 hj.2))) uu1
def F62 (n:Int) (low:Int) (high:Int):Bool :=
 (bif decide (n>=low) then decide (n<=high) else false)
def S62 (R:Bool) (n:Int) (low:Int) (high:Int):Spec:=⟨[.r (.c (.v (vI n))),.r (.c (.v (vI low))),.r (.c (.v (vI high)))],.v (.bool R),True⟩
theorem ok62 (n:Int) (low:Int) (high:Int):(S62 (F62 n low high) n low high).ok Tryz.prog 62 :=
 Ue mixed (fn:=Tryz.f62) (ct:=.seq .no (.seq .no .no)) Tryz.func62 (fun (_:True)=>fiB (bif decide (n>=low) then decide (n<=high) else false) (F62 n low high) rfl) uu1
theorem as62 (n:Int) (low:Int) (high:Int):F62 n low high=(decide (low<=n/\n<=high)):=by
 simp only [F62,Sp,bandd]
theorem oa62 (n:Int) (low:Int) (high:Int):(S62 (decide (low<=n/\n<=high)) n low high).ok Tryz.prog 62:=by
 intro hp; have h:=ok62 n low high hp; rw [as62 n low high] at h; exact h
theorem Qkv (n:Int) (low:Int) (high:Int) {K_:Prop} (k_:K_):(True)/\(Imp (.v (vI n)) (.v (vI n)))/\(Imp (.v (vI low)) (.v (vI low)))/\(Imp (.v (vI high)) (.v (vI high)))/\K_:=⟨trivial,Imp.refl _,Imp.refl _,Imp.refl _,k_⟩
abbrev Hk (n:Int) (low:Int) (high:Int):Hint true Tryz.prog:=.call 62 (S62 (decide (low<=n/\n<=high)) n low high) (oa62 n low high) none
theorem Qiy {K_:Prop} (c_ b_:Bool) (n:Int) (low:Int) (high:Int) (k_:K_):(c_=b_->True)/\(c_=b_->Imp (.v (vI n)) (.v (vI n)))/\(c_=b_->Imp (.v (vI low)) (.v (vI low)))/\(c_=b_->Imp (.v (vI high)) (.v (vI high)))/\K_:=⟨fun _=>trivial,fun _=>Imp.refl _,fun _=>Imp.refl _,fun _=>Imp.refl _,k_⟩
def Hz (s:Za):Int->Lp Int Bool:=fun i40 =>
 bif (decide (i40<(s.size:Int))) then (bif (bif (bif (!(decide (97<=(IntKind.i64.wrap ((s.data.getD i40.toNat 0).toNat:Int))/\(IntKind.i64.wrap ((s.data.getD i40.toNat 0).toNat:Int))<=122))) then (!(decide (48<=(IntKind.i64.wrap ((s.data.getD i40.toNat 0).toNat:Int))/\(IntKind.i64.wrap ((s.data.getD i40.toNat 0).toNat:Int))<=57))) else false) then (((s.data.getD i40.toNat 0).toNat:Int) != 45) else false) then (.ret false) else (.next (i40+1))) else (.done i40)
def F28 (s:Za):Bool :=
 bif (!(decide (1<=(s.size:Int)/\(s.size:Int)<=8))) then false else ((runL (Hz s) (((s.size:Int)-0).toNat+1) 0).fin (fun r=>r) (fun i40=>true))
abbrev Qeh (s:Za):Nat×Int:=((((s.size:Int)-0).toNat+1),0)
abbrev Qtu (s:Za) (m39:Nat) (i40:Int):Prop:=Int.toNat ((s.size:Int)-i40)<m39/\(0:Int)<=i40
abbrev Ugf (s:Za):Lp Int Bool:=LpX (Hz s) (Qeh s)
abbrev Qef (s:Za) (i:Nat×Int):Prop:=LpJ (Hz s) (Qeh s) i (Qtu s i.1 i.2)
abbrev Uin (s:Za) (i:Nat×Int) (m39:Nat) (i40:Int):Prop:=LpH (Hz s) (Qeh s) i m39 i40 (Qtu s (m39+1) i40)
abbrev Uer (s:Za) (i40:Int) (i40_:Int) (K39:Prop):Prop:=(Rf (.string s))/\((.int .i64 i40:Value)=.int .i64 i40_)/\K39
theorem un28_0 (s:Za) (i:Nat×Int) (h:Qef s i):Uin s i (i.1-1) i.2:=⟨hd1 h.1 h.2.1,hd3 h.2.1,hd2 h.2.1,h.2.2⟩
theorem bk28_0 (s:Za) (i:Nat×Int) (m39:Nat) (i40:Int) (hl:m39<i.1) (e:runL (Hz s) m39 i40=Ugf s) (h:Qtu s m39 i40):∃ j:Nat×Int,Uer s i40 j.2 (Qef s j/\j.1<i.1):=⟨(m39,i40),rfl,rfl,⟨e,h⟩,hl⟩
theorem en28_0 (s:Za) (h:(0:Int)<=0):Uer s 0 0 (Qef s (Qeh s)):=⟨rfl,rfl,rfl,Qn _,h⟩
def S28 (s:Za):Spec:=⟨[.r (.c (.v (.string s)))],.v (.bool (F28 s)),s.size<=1048576⟩
theorem ok28 (s:Za):(S28 s).ok Tryz.prog 28 :=
 Ue mixed (fn:=Tryz.f28) (ct:=.seq .no (.seq (.seq (.reg [(2,Hk (s.size:Int) 1 8)]) (.cond (.seq .no .no) .no)) (.seq (.seq .no (.blk (.loop (ι:=Nat×Int) (fun i=>(fun (i40:Int)=>(⟨[(0,some (.v (.string s))),(3,some (.v (vI i40)))],[],0⟩:St)) i.2) (Qef s) (fun i=>i.1) (Qeh s) (fun i=>(fun (i40:Int)=>(.seq (.seq .no (.cond .no .no)) (.seq (.blk (.seq (.reg [(4,Hk (IntKind.i64.wrap ((s.data.getD i40.toNat 0).toNat:Int)) 97 122),(11,Hk (IntKind.i64.wrap ((s.data.getD i40.toNat 0).toNat:Int)) 48 57)]) (.cond (.seq .no .no) .no))) (.reg [(1,.bnd)])))) i.2)))) (.seq .no .no)))) Tryz.func28 (fun (hpre0:s.size<=1048576)=>Qkv (s.size:Int) 1 8 (ifb (!(decide (1<=(s.size:Int)/\(s.size:Int)<=8))) (fun h1=>have _:=Qp (Yq h1); fiB false (F28 s) (condT h1 rfl)) (fun h1=>have _:=Qb (Uw h1); ai (en28_0 s uu0) (fun (i0:Nat×Int) (hi0:Qef s i0)=>(fun (m0:Nat) (i40:Int) (hh0:Uin s i0 m0 i40)=>have hI0:=hh0.1; have hl0:=hh0.2.1; have _:=hh0.2.2.1; have _:=hh0.2.2.2; ifd (i40<(s.size:Int)) (fun h3 _=>ai (uu0:0<=i40/\i40<(s.size:Int)) (Qkv (IntKind.i64.wrap ((s.data.getD i40.toNat 0).toNat:Int)) 97 122 (ai (fun k4:(!(decide (97<=(IntKind.i64.wrap ((s.data.getD i40.toNat 0).toNat:Int))/\(IntKind.i64.wrap ((s.data.getD i40.toNat 0).toNat:Int))<=122)))=true=>have _:=Qp (Yq k4); (uu0:0<=i40/\i40<(s.size:Int))) (Qiy (!(decide (97<=(IntKind.i64.wrap ((s.data.getD i40.toNat 0).toNat:Int))/\(IntKind.i64.wrap ((s.data.getD i40.toNat 0).toNat:Int))<=122))) true (IntKind.i64.wrap ((s.data.getD i40.toNat 0).toNat:Int)) 48 57 (ai (fun k6:(bif (!(decide (97<=(IntKind.i64.wrap ((s.data.getD i40.toNat 0).toNat:Int))/\(IntKind.i64.wrap ((s.data.getD i40.toNat 0).toNat:Int))<=122))) then (!(decide (48<=(IntKind.i64.wrap ((s.data.getD i40.toNat 0).toNat:Int))/\(IntKind.i64.wrap ((s.data.getD i40.toNat 0).toNat:Int))<=57))) else false)=true=>have _:=Qp (Yq (Uc k6)); have _:=Qp (Yq (Ut k6)); (uu0:0<=i40/\i40<(s.size:Int))) (ifb (bif (bif (!(decide (97<=(IntKind.i64.wrap ((s.data.getD i40.toNat 0).toNat:Int))/\(IntKind.i64.wrap ((s.data.getD i40.toNat 0).toNat:Int))<=122))) then (!(decide (48<=(IntKind.i64.wrap ((s.data.getD i40.toNat 0).toNat:Int))/\(IntKind.i64.wrap ((s.data.getD i40.toNat 0).toNat:Int))<=57))) else false) then (((s.data.getD i40.toNat 0).toNat:Int) != 45) else false) (fun h7=>have _:=Qp (Yq (Uc (Uc h7))); have _:=Qp (Yq (Ut (Uc h7))); have _:=bneT (Ut h7); fiB false (F28 s) (condF h1 (finR (Um hI0 (condT h3 (condT h7 rfl))) rfl))) (fun h7=>ai (iok (i40+1) uu0) (bk28_0 s i0 m0 (i40+1) hl0 (Ud hI0 (condT h3 (condF h7 rfl))) uu5)))))))) (fun h3 _=>have hD0_8:Ugf s=Lp.done i40:=Uh hI0 (condF h3 rfl); fiB true (F28 s) (condF h1 (finD hD0_8 rfl)))) (i0.1-1) i0.2 (un28_0 s i0 hi0))))) uu1
def Jm (s:Za):(Int×Int)->Lp (Int×Int) Int:=fun (n,i40) =>
 bif (decide (i40<(s.size:Int))) then (bif (!(decide (48<=(IntKind.i64.wrap ((s.data.getD i40.toNat 0).toNat:Int))/\(IntKind.i64.wrap ((s.data.getD i40.toNat 0).toNat:Int))<=57))) then (.ret (-1)) else (.next ((IntKind.i64.wrap ((IntKind.i64.wrap (n*10))+(IntKind.i64.wrap (IntKind.u8.wrap (((s.data.getD i40.toNat 0).toNat:Int)-48))))),(i40+1)))) else (.done (n,i40))
def F194 (s:Za):Int :=
 bif (bif (!(decide (1<=(s.size:Int)/\(s.size:Int)<=6))) then true else (bif decide ((s.size:Int)>1) then (((s.data.getD (Int.toNat 0) 0).toNat:Int)==48) else false)) then (-1) else ((runL (Jm s) (((s.size:Int)-0).toNat+1) (0,0)).fin (fun r=>r) (fun (n,i40)=>n))
abbrev Pg (s:Za):Nat×(Int×Int):=((((s.size:Int)-0).toNat+1),(0,0))
abbrev Qmb (s:Za) (m39:Nat) (n:Int) (i40:Int):Prop:=Int.toNat ((s.size:Int)-i40)<m39/\(0:Int)<=i40
abbrev Qxd (s:Za):Lp (Int×Int) Int:=LpX (Jm s) (Pg s)
abbrev Qao (s:Za) (i:Nat×(Int×Int)):Prop:=LpJ (Jm s) (Pg s) i (Qmb s i.1 i.2.1 i.2.2)
abbrev Qwn (s:Za) (i:Nat×(Int×Int)) (m39:Nat) (n:Int) (i40:Int):Prop:=LpH (Jm s) (Pg s) i m39 (n,i40) (Qmb s (m39+1) n i40)
abbrev Qxo (s:Za) (n:Int) (i40:Int) (n_:Int) (i40_:Int) (K39:Prop):Prop:=(Rf (.string s))/\((.int .i64 n:Value)=.int .i64 n_)/\((.int .i64 i40:Value)=.int .i64 i40_)/\K39
theorem Umy (s:Za) (i:Nat×(Int×Int)) (h:Qao s i):Qwn s i (i.1-1) i.2.1 i.2.2:=⟨hd1 h.1 h.2.1,hd3 h.2.1,hd2 h.2.1,h.2.2⟩
theorem Umf (s:Za) (i:Nat×(Int×Int)) (m39:Nat) (n:Int) (i40:Int) (hl:m39<i.1) (e:runL (Jm s) m39 (n,i40)=Qxd s) (h:Qmb s m39 n i40):∃ j:Nat×(Int×Int),Qxo s n i40 j.2.1 j.2.2 (Qao s j/\j.1<i.1):=⟨(m39,(n,i40)),rfl,rfl,rfl,⟨e,h⟩,hl⟩
theorem Una (s:Za) (h:(0:Int)<=0):Qxo s 0 0 0 0 (Qao s (Pg s)):=⟨rfl,rfl,rfl,rfl,Qn _,h⟩
def S194 (s:Za):Spec:=⟨[.r (.c (.v (.string s)))],.v (vI (F194 s)),s.size<=1048576⟩
theorem ok194 (s:Za):(S194 s).ok Tryz.prog 194 :=
 Ue mixed (fn:=Tryz.f194) (ct:=.seq .no (.seq (.seq (.reg [(2,Hk (s.size:Int) 1 6)]) (.cond (.seq .no .no) .no)) (.seq .no (.seq (.seq .no (.blk (.loop (ι:=Nat×(Int×Int)) (fun i=>(fun (n:Int) (i40:Int)=>(⟨[(0,some (.v (.string s))),(3,some (.v (vI n))),(4,some (.v (vI i40)))],[],0⟩:St)) i.2.1 i.2.2) (Qao s) (fun i=>i.1) (Pg s) (fun i=>(fun (n:Int) (i40:Int)=>(.seq (.seq .no (.cond .no .no)) (.seq (.blk (.seq (.seq (.reg [(4,Hk (IntKind.i64.wrap ((s.data.getD i40.toNat 0).toNat:Int)) 48 57)]) (.cond (.seq .no .no) .no)) .no)) (.reg [(1,.bnd)])))) i.2.1 i.2.2)))) (.seq .no .no))))) Tryz.func194 (fun (hpre0:s.size<=1048576)=>Qkv (s.size:Int) 1 6 (ai (fun k2:(decide ((s.size:Int)>1))=true=>have _:=Qb k2; (fun k1:(!(decide (1<=(s.size:Int)/\(s.size:Int)<=6)))=false=>have _:=Qb (Uw k1); (uu0:0<=(0:Int)/\(0:Int)<(s.size:Int)))) (ifb (bif (!(decide (1<=(s.size:Int)/\(s.size:Int)<=6))) then true else (bif decide ((s.size:Int)>1) then (((s.data.getD (Int.toNat 0) 0).toNat:Int)==48) else false)) (fun h3=>fiI (-1) (F194 s) (condT h3 rfl)) (fun h3=>have _:=Qb (Uw (orF1 h3)); ai (Una s uu0) (fun (i0:Nat×(Int×Int)) (hi0:Qao s i0)=>(fun (m0:Nat) (n:Int) (i40:Int) (hh0:Qwn s i0 m0 n i40)=>have hI0:=hh0.1; have hl0:=hh0.2.1; have _:=hh0.2.2.1; have _:=hh0.2.2.2; ifd (i40<(s.size:Int)) (fun h5 _=>ai (uu0:0<=i40/\i40<(s.size:Int)) (Qkv (IntKind.i64.wrap ((s.data.getD i40.toNat 0).toNat:Int)) 48 57 (ifb (!(decide (48<=(IntKind.i64.wrap ((s.data.getD i40.toNat 0).toNat:Int))/\(IntKind.i64.wrap ((s.data.getD i40.toNat 0).toNat:Int))<=57))) (fun h6=>have _:=Qp (Yq h6); fiI (-1) (F194 s) (condF h3 (finR (Um hI0 (condT h5 (condT h6 rfl))) rfl))) (fun h6=>have _:=Qb (Uw h6); ai (uu0:0<=i40/\i40<(s.size:Int)) (ai (iok (i40+1) uu0) (Umf s i0 m0 (IntKind.i64.wrap ((IntKind.i64.wrap (n*10))+(IntKind.i64.wrap (IntKind.u8.wrap (((s.data.getD i40.toNat 0).toNat:Int)-48))))) (i40+1) hl0 (Ud hI0 (condT h5 (condF h6 rfl))) uu5)))))) (fun h5 _=>have hD0_7:Qxd s=Lp.done (n,i40):=Uh hI0 (condF h5 rfl); fiI n (F194 s) (condF h3 (finD hD0_7 rfl)))) (i0.1-1) i0.2.1 i0.2.2 (Umy s i0 hi0)))))) uu1
def Ps (n:Int):(Int×Int)->Lp (Int×Int) Int:=fun (out,i40) =>
 bif (decide (i40<16)) then (.next ((IntKind.i64.wrap (out*2)),(i40+1))) else (.done (out,i40))
def F204 (n:Int):Int :=
 (runL (Ps n) ((16-n).toNat+1) (1,n)).fin (fun r=>r) (fun (out,i40)=>out)
abbrev Ec (n:Int):Nat×(Int×Int):=(((16-n).toNat+1),(1,n))
abbrev Qmh (m39:Nat) (out:Int) (i40:Int):Prop:=Int.toNat (16-i40)<m39/\(0:Int)<=i40
abbrev Qxw (n:Int):Lp (Int×Int) Int:=LpX (Ps n) (Ec n)
abbrev Qab (n:Int) (i:Nat×(Int×Int)):Prop:=LpJ (Ps n) (Ec n) i (Qmh i.1 i.2.1 i.2.2)
abbrev Qww (n:Int) (i:Nat×(Int×Int)) (m39:Nat) (out:Int) (i40:Int):Prop:=LpH (Ps n) (Ec n) i m39 (out,i40) (Qmh (m39+1) out i40)
abbrev Qws (out:Int) (i40:Int) (out_:Int) (i40_:Int) (K39:Prop):Prop:=((.int .i64 out:Value)=.int .i64 out_)/\((.int .i64 i40:Value)=.int .i64 i40_)/\K39
theorem Umk (n:Int) (i:Nat×(Int×Int)) (h:Qab n i):Qww n i (i.1-1) i.2.1 i.2.2:=⟨hd1 h.1 h.2.1,hd3 h.2.1,hd2 h.2.1,h.2.2⟩
theorem Ukn (n:Int) (i:Nat×(Int×Int)) (m39:Nat) (out:Int) (i40:Int) (hl:m39<i.1) (e:runL (Ps n) m39 (out,i40)=Qxw n) (h:Qmh m39 out i40):∃ j:Nat×(Int×Int),Qws out i40 j.2.1 j.2.2 (Qab n j/\j.1<i.1):=⟨(m39,(out,i40)),rfl,rfl,⟨e,h⟩,hl⟩
theorem Umb (n:Int) (h:(0:Int)<=n):Qws 1 n 1 n (Qab n (Ec n)):=⟨rfl,rfl,rfl,Qn _,h⟩
def S204 (n:Int):Spec:=⟨[.r (.c (.v (vI n)))],.v (vI (F204 n)),0<=n⟩
theorem ok204 (n:Int):(S204 n).ok Tryz.prog 204 :=
 Ue mixed (fn:=Tryz.f204) (ct:=.seq .no (.seq .no (.seq (.seq .no (.blk (.loop (ι:=Nat×(Int×Int)) (fun i=>(fun (out:Int) (i40:Int)=>(⟨[(3,some (.v (vI out))),(4,some (.v (vI i40)))],[],0⟩:St)) i.2.1 i.2.2) (Qab n) (fun i=>i.1) (Ec n) (fun i=>(fun (out:Int) (i40:Int)=>(.seq (.seq .no (.cond .no .no)) (.seq (.blk .no) (.reg [(1,.bnd)])))) i.2.1 i.2.2)))) (.seq .no .no)))) Tryz.func204 (fun (hpre0:0<=n)=>ai (Umb n uu0) (fun (i0:Nat×(Int×Int)) (hi0:Qab n i0)=>(fun (m0:Nat) (out:Int) (i40:Int) (hh0:Qww n i0 m0 out i40)=>have hI0:=hh0.1; have hl0:=hh0.2.1; have _:=hh0.2.2.1; have _:=hh0.2.2.2; ifd (i40<16) (fun h2 _=>ai (iok (i40+1) uu0) (Ukn n i0 m0 (IntKind.i64.wrap (out*2)) (i40+1) hl0 (Ud hI0 (condT h2 rfl)) uu5)) (fun h2 _=>have hD0_3:Qxw n=Lp.done (out,i40):=Uh hI0 (condF h2 rfl); fiI out (F204 n) (finD hD0_3 rfl))) (i0.1-1) i0.2.1 i0.2.2 (Umk n i0 hi0))) uu1
theorem Qlu (n:Int):0<=n->n<=16->1<=(F204 n)/\(F204 n)<=65536:=by
 intro h1 h2; have h3:n=0\/n=1\/n=2\/n=3\/n=4\/n=5\/n=6\/n=7\/n=8\/n=9\/n=10\/n=11\/n=12\/n=13\/n=14\/n=15\/n=16:=by omega
 rcases h3 with rfl | rfl | rfl | rfl | rfl | rfl | rfl | rfl | rfl | rfl | rfl | rfl | rfl | rfl | rfl | rfl | rfl <;> exact Qb rfl
def Le (list:List Za) (s:Za):Int->Lp Int Bool:=fun i40 =>
 bif (decide (i40<(list.length:Int))) then (bif ((list.getD i40.toNat default).toList==s.toList) then (.ret true) else (.next (i40+1))) else (.done i40)
def F31 (list:List Za) (s:Za):Bool :=
 (runL (Le list s) (((list.length:Int)-0).toNat+1) 0).fin (fun r=>r) (fun i40=>false)
abbrev Qha (list:List Za):Nat×Int:=((((list.length:Int)-0).toNat+1),0)
abbrev Qrk (list:List Za) (m39:Nat) (i40:Int):Prop:=Int.toNat ((list.length:Int)-i40)<m39/\(0:Int)<=i40
abbrev Uis (list:List Za) (s:Za):Lp Int Bool:=LpX (Le list s) (Qha list)
abbrev Qdt (list:List Za) (s:Za) (i:Nat×Int):Prop:=LpJ (Le list s) (Qha list) i (Qrk list i.1 i.2)
abbrev Ucw (list:List Za) (s:Za) (i:Nat×Int) (m39:Nat) (i40:Int):Prop:=LpH (Le list s) (Qha list) i m39 i40 (Qrk list (m39+1) i40)
abbrev Udg (list:List Za) (s:Za) (i40:Int) (i40_:Int) (K39:Prop):Prop:=(Rf (.string s))/\((.int .i64 i40:Value)=.int .i64 i40_)/\(Im (.l 1 eStr list))/\K39
theorem un31_0 (list:List Za) (s:Za) (i:Nat×Int) (h:Qdt list s i):Ucw list s i (i.1-1) i.2:=⟨hd1 h.1 h.2.1,hd3 h.2.1,hd2 h.2.1,h.2.2⟩
theorem bk31_0 (list:List Za) (s:Za) (i:Nat×Int) (m39:Nat) (i40:Int) (hl:m39<i.1) (e:runL (Le list s) m39 i40=Uis list s) (h:Qrk list m39 i40):∃ j:Nat×Int,Udg list s i40 j.2 (Qdt list s j/\j.1<i.1):=⟨(m39,i40),rfl,rfl,Imp.refl _,⟨e,h⟩,hl⟩
theorem en31_0 (list:List Za) (s:Za) (h:(0:Int)<=0):Udg list s 0 0 (Qdt list s (Qha list)):=⟨rfl,rfl,Imp.refl _,rfl,Qn _,h⟩
def S31 (list:List Za) (s:Za):Spec:=⟨[.r (.c (.l 1 eStr list)),.r (.c (.v (.string s)))],.v (.bool (F31 list s)),True⟩
theorem ok31 (list:List Za) (s:Za):(S31 list s).ok Tryz.prog 31 :=
 Ue mixed (fn:=Tryz.f31) (ct:=.seqk [(0,0)] .no (.seq (.seqk [(0,0)] .no (.blk (.loop (ι:=Nat×Int) (fun i=>(fun (i40:Int)=>(⟨[(0,some (.h 0 0)),(1,some (.v (.string s))),(5,some (.v (vI i40)))],[(0,some (.shr none (.l 1 eStr list)))],1⟩:St)) i.2) (Qdt list s) (fun i=>i.1) (Qha list) (fun i=>(fun (i40:Int)=>(.seq (.seq .no (.cond .no .no)) (.seq (.blk (.seq .no (.cond (.seq .no .no) .no))) (.reg [(1,.bnd)])))) i.2)))) (.seq .no .no))) Tryz.func31 (fun (_:True)=>kn list fun _=>kn list fun _=>ai (en31_0 list s uu0) (fun (i0:Nat×Int) (hi0:Qdt list s i0)=>(fun (m0:Nat) (i40:Int) (hh0:Ucw list s i0 m0 i40)=>have hI0:=hh0.1; have hl0:=hh0.2.1; have _:=hh0.2.2.1; have _:=hh0.2.2.2; ifd (i40<(list.length:Int)) (fun h2 _=>ai (uu0:ib i40 list) (ifb ((list.getD i40.toNat default).toList==s.toList) (fun h3=>fiB true (F31 list s) (finR (Um hI0 (condT h2 (condT h3 rfl))) rfl)) (fun h3=>ai (iok (i40+1) uu0) (bk31_0 list s i0 m0 (i40+1) hl0 (Ud hI0 (condT h2 (condF h3 rfl))) uu5)))) (fun h2 _=>have hD0_4:Uis list s=Lp.done i40:=Uh hI0 (condF h2 rfl); fiB false (F31 list s) (finD hD0_4 rfl))) (i0.1-1) i0.2 (un31_0 list s i0 hi0))) uu1
def F208:List Za :=
 Zr
theorem fi208 (r:List Za) (hF:r=F208):(Imp (.l 1 eStr r) (.l 1 eStr F208))/\True:=by cases hF; exact ⟨Imp.refl _,trivial⟩
def S208:Spec:=⟨[],.ow (.l 1 eStr F208),True⟩
theorem ok208:(S208).ok Tryz.prog 208 :=
 Ue mixed (fn:=Tryz.f208) (ct:=.seq .no (.seq (.reg [(0,.dat (.l 1 eStr Zr))]) .no)) Tryz.func208 (fun (_:True)=>ai (bokr 1 eStr Zr fun _=>rfl) (fi208 Zr rfl)) uu1
theorem Qyj (s:Za) (a b:Nat):mkB ((s.data.toList.drop a).take (b-a))=s.extract a b:=by
 refine Bw ?_
 rw [Qey,T5,Gj,Te]
theorem Ueg (s:Za) (c:UInt8) (out:List Za) (f:Int):Jl s (c.toNat:Int) (out,f,(s.size:Int))=.done (out,f,(s.size:Int)):=by
 simp only [Jl,Qk (show ¬ (s.size:Int)<(s.size:Int) by omega),Qe]
theorem Ufh (s:Za) (c:UInt8) (out:List Za) (f i:Nat) (hi:i<s.size) (b:UInt8) (hb:s.data.toList.getD i 0=b):Jl s (c.toNat:Int) (out,(f:Int),(i:Int)) =
  if b=c then .next (out++[s.extract f i],((i+1:Nat):Int),((i+1:Nat):Int)) else .next (out,(f:Int),((i+1:Nat):Int)):=by
 have hc:((c.toNat:Int)%256)=(c.toNat:Int):=by have:=c.toNat_lt; omega
 simp only [Jl,Qs (show (i:Int)<(s.size:Int) by omega),Qc,Rk,Wq,hb,hc,Qvk]
 by_cases h:b=c
 ·rw [Qs h,if_pos h]; rfl
 ·rw [Qk h,if_neg h]; rfl
theorem Qbv (s:Za) (c:UInt8):∀ (m i f:Nat) (out:List Za),i+m=s.size->f<=i->c ∉ (s.data.toList.drop f).take (i-f)->∀ fuel,m<fuel ->
  ((runL (Jl s (c.toNat:Int)) fuel (out,(f:Int),(i:Int))).fin Lp.ret (fun (out1,from'1,i40)=>.done (out1,from'1))).fin (fun r=>r) (fun (out,from')=>out++[s.extract from'.toNat (s.size:Int).toNat])=out++(Uz c (s.data.toList.drop f)).map mkB
 | m,i,f,out,_,_,_,0,hf=>absurd hf (Sq _)
 | 0,i,f,out,h,hfi,hc,fuel+1,hf=>by
  have hl:s.data.toList.length=s.size:=Q8
  obtain rfl:i=s.size:=by omega
  rw [Vb _ (Ueg s c out f)]
  have e:(s.data.toList.drop f).take (s.size-f)=s.data.toList.drop f:=Sb (by rw [Tq]; omega)
  rw [e] at hc
  rw [Yx hc,Rb,G3,<- e,Qyj]
  rfl
 | m+1,i,f,out,h,hfi,hc,fuel+1,hf=>by
  have hl:s.data.toList.length=s.size:=Q8
  have hb:s.data.toList.drop i=s.data.toList.getD i 0 :: s.data.toList.drop (i+1):=by
   rw [Rg uu0,Qd,Qh uu0]; rfl
  have hw:s.data.toList.drop f=(s.data.toList.drop f).take (i-f)++s.data.toList.drop i:=by
   have:=(R6 (i-f) (s.data.toList.drop f)).symm
   rw [Ts,show f+(i-f)=i by omega] at this
   exact this
  have h1:=Ufh s c out f i uu0 _ rfl
  generalize hbb:s.data.toList.getD i 0=b at h1 hb
  by_cases hbc:b=c
  ·rw [if_pos hbc] at h1
   rw [Kc _ h1,Qbv s c m (i+1) (i+1) _ uu0 (Qq _) (by rw [Gl,Tv]; exact Rv) fuel uu0]
   rw [hw,hb,hbc,Ki _ hc,Rb,Qyj,Q1]
   rfl
  ·rw [if_neg hbc] at h1
   have hc':c ∉ (s.data.toList.drop f).take (i+1-f):=by
    have e:(s.data.toList.drop f).take (i+1-f)=(s.data.toList.drop f).take (i-f)++[b]:=by
     have hg:s.data.toList[i]?=some b:=by
      rw [Qd,Qh uu0] at hbb
      rw [Qh uu0]
      exact Qt some hbb
     rw [show i+1-f=(i-f)+1 by omega,List.take_add_one,Rt,show f+(i-f)=i by omega,hg]
     rfl
    rw [e]
    intro hm
    rcases Q6.1 hm with h2 | h2
    ·exact hc h2
    ·exact hbc (Qw.1 h2).symm
   rw [Kc _ h1]
   exact Qbv s c m (i+1) f out uu0 uu0 hc' fuel uu0
theorem Hd (s:Za) (c:UInt8):F32 s (c.toNat:Int)=(Uz c s.data.toList).map mkB:=by
 have:=Qbv s c s.size 0 0 [] uu0 (Qq _) (by rw [Gl,Tv]; exact Rv) (Int.toNat ((s.size:Int)-0)+1) uu0
 rw [Rm,R3] at this
 exact this
theorem Qcg (s:Za) (c:UInt8):Uv s ⟨#[c]⟩=(Uz c s.data.toList).map mkB:=by
 rw [<- Qho,Gn]
 exact ((T2 fun x _=>Qhd x).trans (G5 _)).symm
theorem Qib (s:Za) (c:UInt8):F32 s (c.toNat:Int)=Uv s ⟨#[c]⟩:=(Hd s c).trans (Qcg s c).symm
theorem Ucl (s:Za) (a:Int):∃ c:UInt8,F32 s a=(Uz c s.data.toList).map mkB:=by
 refine ⟨UInt8.ofNat (a%256).toNat,?_⟩
 rw [<- Hd]
 have h:((UInt8.ofNat (a%256).toNat).toNat:Int)%256=a%256:=by
  rw [UInt8.toNat_ofNat']
  omega
 have e:Jl s a=Jl s ((UInt8.ofNat (a%256).toNat).toNat:Int):=by
  funext ⟨o,f,i⟩
  simp only [Jl,h]
 unfold F32 Qen
 rw [e]
theorem Qcc (c:UInt8):∀ (l:List UInt8),∀ w∈Uz c l,w.length<=l.length
 | [],w,h=>by
  rw [Uz,Qw] at h; rw [h]; exact Qq _
 | b :: l,w,h=>by
  have ih:=Qcc c l
  rw [Uz] at h
  by_cases hb:b=c
  ·rw [if_pos hb] at h
   rcases Qu.1 h with rfl | h
   ·exact Qy _
   ·exact Nat.le_succ_of_le (ih w h)
  ·rw [if_neg hb] at h
   cases hs:Uz c l with
   | nil =>
    rw [hs] at h
    rw [Qw] at h; rw [h]; exact Gz (Qy _)
   | cons p ps =>
    rw [hs] at h ih
    rcases Qu.1 h with rfl | h
    ·exact Gz (ih p Ql)
    ·exact Nat.le_succ_of_le (ih w (Qi _ h))
theorem Qhf (ws:List (List UInt8)) (n:Nat) (h:∀ w∈ws,w.length<=n) (k:Nat):(((ws.map mkB).getD k default:Za)).size<=n:=by
 by_cases hk:k<ws.length
 ·rw [Qd,Qh (by simpa using hk),List.getElem_map]
  exact h _ (Gp hk)
 ·rw [Kq _ (by simpa using hk)]
  exact Qy _
theorem Qlc (s:Za) (a:Int) (h:s.size<=1048576) (k:Nat):(((F32 s a).getD k default:Za)).size<=1048576:=by
 obtain ⟨c,e⟩:=Ucl s a
 rw [e]
 refine Qhf _ _ (fun w hw=>?_) k
 have:=Qcc c _ w hw
 have hl:s.data.toList.length=s.size:=Q8
 omega
theorem Qwo (s:Za) {K_:Prop} (p0_:s.size<=1048576) (k_:K_):(s.size<=1048576)/\(Imp (.v (.string s)) (.v (.string s)))/\K_:=⟨p0_,Imp.refl _,k_⟩
abbrev Qcz (s:Za):Hint true Tryz.prog:=.call 194 (S194 s) (ok194 s) none
def F201 (s:Za) (low:Int) (high:Int):Bool :=
 (decide (low<=(F194 s)/\(F194 s)<=high))
def S201 (R:Bool) (s:Za) (low:Int) (high:Int):Spec:=⟨[.r (.c (.v (.string s))),.r (.c (.v (vI low))),.r (.c (.v (vI high)))],.v (.bool R),s.size<=1048576⟩
theorem ok201 (s:Za) (low:Int) (high:Int):(S201 (F201 s low high) s low high).ok Tryz.prog 201 :=
 Ue mixed (fn:=Tryz.f201) (ct:=.seq .no (.seq (.reg [(1,Qcz s),(4,Hk (F194 s) low high)]) .no)) Tryz.func201 (fun (hpre0:s.size<=1048576)=>Qwo s uu0 (Qkv (F194 s) low high (fiB (decide (low<=(F194 s)/\(F194 s)<=high)) (F201 s low high) rfl))) uu1
theorem as201 (s:Za) (low:Int) (high:Int):F201 s low high=(decide (low<=F194 s/\F194 s<=high)):=by
 rfl
theorem oa201 (s:Za) (low:Int) (high:Int):(S201 (decide (low<=F194 s/\F194 s<=high)) s low high).ok Tryz.prog 201:=by
 intro hp; have h:=ok201 s low high hp; rw [as201 s low high] at h; exact h
theorem kc32 (s:Za) (at':Int) {K_:Prop} (p0_:s.size<=1048576) (q0_:s.size<=1048576) (k_:(∀ k:Nat,((F32 s at').getD k default).size<=1048576)->K_):(s.size<=1048576)/\(Imp (.v (.string s)) (.v (.string s)))/\(Imp (.v (.int .u8 at')) (.v (.int .u8 at')))/\K_:=⟨p0_,Imp.refl _,Imp.refl _,k_ (Qlc s at' q0_)⟩
abbrev kh32 (s:Za) (at':Int):Hint true Tryz.prog:=.call 32 (S32 s at') (ok32 s at') none
theorem Wy {K_:Prop} (c_ b_:Bool) (s:Za) (low:Int) (high:Int) (p_:c_=b_->s.size<=1048576) (k_:K_):(c_=b_->s.size<=1048576)/\(c_=b_->Imp (.v (.string s)) (.v (.string s)))/\(c_=b_->Imp (.v (vI low)) (.v (vI low)))/\(c_=b_->Imp (.v (vI high)) (.v (vI high)))/\K_:=⟨p_,fun _=>Imp.refl _,fun _=>Imp.refl _,fun _=>Imp.refl _,k_⟩
abbrev Wx (s:Za) (low:Int) (high:Int):Hint true Tryz.prog:=.call 201 (S201 (decide (low<=F194 s/\F194 s<=high)) s low high) (oa201 s low high) none
def F191 (s:Za):Int :=
 bif (bif (bif (((F32 s 46).length:Int) != 2) then true else (!(decide (0<=F194 ((F32 s 46).getD (Int.toNat 0) default)/\F194 ((F32 s 46).getD (Int.toNat 0) default)<=255)))) then true else (!(decide (0<=F194 ((F32 s 46).getD (Int.toNat 1) default)/\F194 ((F32 s 46).getD (Int.toNat 1) default)<=255)))) then (-1) else (IntKind.i64.wrap ((IntKind.i64.wrap (256*(F194 ((F32 s 46).getD (Int.toNat 0) default))))+(F194 ((F32 s 46).getD (Int.toNat 1) default))))
def S191 (s:Za):Spec:=⟨[.r (.c (.v (.string s)))],.v (vI (F191 s)),s.size<=1048576⟩
theorem ok191 (s:Za):(S191 s).ok Tryz.prog 191 :=
 Ue mixed (fn:=Tryz.f191) (ct:=.seq .no (.seq (.reg [(1,kh32 s 46)]) (.seq (.seq (.reg [(7,Wx ((F32 s 46).getD (Int.toNat 0) default) 0 255),(14,Wx ((F32 s 46).getD (Int.toNat 1) default) 0 255)]) (.cond (.seq .no .no) .no)) (.seq (.reg [(3,Qcz ((F32 s 46).getD (Int.toNat 0) default)),(8,Qcz ((F32 s 46).getD (Int.toNat 1) default))]) .no)))) Tryz.func191 (fun (hpre0:s.size<=1048576)=>kc32 s 46 uu0 uu0 (fun gv1=>ai (fun k2:(((F32 s 46).length:Int) != 2)=false=>have _:=bneF k2; (uu0:ib 0 (F32 s 46))) (Wy (((F32 s 46).length:Int) != 2) false ((F32 s 46).getD (Int.toNat 0) default) 0 255 (fun k3=>have _:=bneF k3; uu36) (ai (fun k4:(bif (((F32 s 46).length:Int) != 2) then true else (!(decide (0<=F194 ((F32 s 46).getD (Int.toNat 0) default)/\F194 ((F32 s 46).getD (Int.toNat 0) default)<=255))))=false=>have _:=bneF (orF1 k4); have _:=Qb (Uw (orF2 k4)); (uu0:ib 1 (F32 s 46))) (Wy (bif (((F32 s 46).length:Int) != 2) then true else (!(decide (0<=F194 ((F32 s 46).getD (Int.toNat 0) default)/\F194 ((F32 s 46).getD (Int.toNat 0) default)<=255)))) false ((F32 s 46).getD (Int.toNat 1) default) 0 255 (fun k5=>have _:=bneF (orF1 k5); have _:=Qb (Uw (orF2 k5)); uu36) (ifb (bif (bif (((F32 s 46).length:Int) != 2) then true else (!(decide (0<=F194 ((F32 s 46).getD (Int.toNat 0) default)/\F194 ((F32 s 46).getD (Int.toNat 0) default)<=255)))) then true else (!(decide (0<=F194 ((F32 s 46).getD (Int.toNat 1) default)/\F194 ((F32 s 46).getD (Int.toNat 1) default)<=255)))) (fun h6=>fiI (-1) (F191 s) (condT h6 rfl)) (fun h6=>have _:=bneF (orF1 (orF1 h6)); have _:=Qb (Uw (orF2 (orF1 h6))); have _:=Qb (Uw (orF2 h6)); ai (uu0:ib 0 (F32 s 46)) (Qwo ((F32 s 46).getD (Int.toNat 0) default) uu36 (ai (uu0:ib 1 (F32 s 46)) (Qwo ((F32 s 46).getD (Int.toNat 1) default) uu36 (fiI (IntKind.i64.wrap ((IntKind.i64.wrap (256*(F194 ((F32 s 46).getD (Int.toNat 0) default))))+(F194 ((F32 s 46).getD (Int.toNat 1) default)))) (F191 s) (condF h6 rfl)))))))))))) uu1
theorem kc208 {K_:Prop} (k_:K_):(True)/\K_:=⟨trivial,k_⟩
abbrev kh208:Hint true Tryz.prog:=.call 208 (S208) (ok208) none
theorem kc31 (list:List Za) (s:Za) {K_:Prop} (k_:K_):(True)/\(Imp (.l 1 eStr list) (.l 1 eStr list))/\(Imp (.v (.string s)) (.v (.string s)))/\K_:=⟨trivial,Imp.refl _,Imp.refl _,k_⟩
abbrev kh31 (list:List Za) (s:Za):Hint true Tryz.prog:=.call 31 (S31 list s) (ok31 list s) none
def Bb (s:Za):Int->Lp Int Bool:=fun i40 =>
 bif (decide (i40<((F32 s 44).length:Int))) then (bif (bif (!(F31 F208 ((F32 s 44).getD i40.toNat default))) then true else (bif decide (i40>0) then (!(Op.bytesLess ((F32 s 44).getD (i40-1).toNat default).toList ((F32 s 44).getD i40.toNat default).toList)) else false)) then (.ret false) else (.next (i40+1))) else (.done i40)
def F200 (s:Za):Bool :=
 bif (bif (s.toList==Zm.toList) then true else (s.toList==Zq.toList)) then true else ((runL (Bb s) ((((F32 s 44).length:Int)-0).toNat+1) 0).fin (fun r=>r) (fun i40=>true))
abbrev Qae (s:Za):Nat×Int:=(((((F32 s 44).length:Int)-0).toNat+1),0)
abbrev Qmc (s:Za) (m39:Nat) (i40:Int):Prop:=Int.toNat (((F32 s 44).length:Int)-i40)<m39/\(0:Int)<=i40
abbrev Qwl (s:Za):Lp Int Bool:=LpX (Bb s) (Qae s)
abbrev Qap (s:Za) (i:Nat×Int):Prop:=LpJ (Bb s) (Qae s) i (Qmc s i.1 i.2)
abbrev Qwq (s:Za) (i:Nat×Int) (m39:Nat) (i40:Int):Prop:=LpH (Bb s) (Qae s) i m39 i40 (Qmc s (m39+1) i40)
abbrev Qvh (s:Za) (i40:Int) (i40_:Int) (K39:Prop):Prop:=((.int .i64 i40:Value)=.int .i64 i40_)/\(Im (.l 1 eStr (F32 s 44)))/\K39
theorem Uix (s:Za) (i:Nat×Int) (h:Qap s i):Qwq s i (i.1-1) i.2:=⟨hd1 h.1 h.2.1,hd3 h.2.1,hd2 h.2.1,h.2.2⟩
theorem Ujc (s:Za) (i:Nat×Int) (m39:Nat) (i40:Int) (hl:m39<i.1) (e:runL (Bb s) m39 i40=Qwl s) (h:Qmc s m39 i40):∃ j:Nat×Int,Qvh s i40 j.2 (Qap s j/\j.1<i.1):=⟨(m39,i40),rfl,Imp.refl _,⟨e,h⟩,hl⟩
theorem Ukx (s:Za) (h:(0:Int)<=0):Qvh s 0 0 (Qap s (Qae s)):=⟨rfl,Imp.refl _,rfl,Qn _,h⟩
def S200 (s:Za):Spec:=⟨[.r (.c (.v (.string s)))],.v (.bool (F200 s)),s.size<=1048576⟩
theorem ok200 (s:Za):(S200 s).ok Tryz.prog 200 :=
 Ue mixed (fn:=Tryz.f200) (ct:=.seq .no (.seq (.seq .no (.cond (.seq .no .no) .no)) (.seq (.reg [(1,kh32 s 44)]) (.seq (.seqk [(3,0)] .no (.blk (.loop (ι:=Nat×Int) (fun i=>(fun (i40:Int)=>(⟨[(3,some (.h 0 0)),(4,some (.v (vI i40)))],[(0,some (.own 0 (.l 1 eStr (F32 s 44))))],1⟩:St)) i.2) (Qap s) (fun i=>i.1) (Qae s) (fun i=>(fun (i40:Int)=>(.seq (.seq .no (.cond .no .no)) (.seq (.blk (.seq (.reg [(0,kh208),(5,kh31 F208 ((F32 s 44).getD i40.toNat default)),(13,.bnd)]) (.cond (.seq .no .no) .no))) (.reg [(1,.bnd)])))) i.2)))) (.seq .no .no))))) Tryz.func200 (fun (hpre0:s.size<=1048576)=>ifb (bif (s.toList==Zm.toList) then true else (s.toList==Zq.toList)) (fun h1=>fiB true (F200 s) (condT h1 rfl)) (fun h1=>have _:(s.toList==Zm.toList)=false:=(orF1 h1); have _:(s.toList==Zq.toList)=false:=(orF2 h1); kc32 s 44 uu0 uu0 (fun gv2=>kn (F32 s 44) fun _=>ai (Ukx s uu0) (fun (i0:Nat×Int) (hi0:Qap s i0)=>(fun (m0:Nat) (i40:Int) (hh0:Qwq s i0 m0 i40)=>have hI0:=hh0.1; have hl0:=hh0.2.1; have _:=hh0.2.2.1; have _:=hh0.2.2.2; ifd (i40<((F32 s 44).length:Int)) (fun h4 _=>kc208 (ai (uu0:ib i40 (F32 s 44)) (kc31 F208 ((F32 s 44).getD i40.toNat default) (ai (fun k6:(decide (i40>0))=true=>have _:=Qb k6; (fun k5:(!(F31 F208 ((F32 s 44).getD i40.toNat default)))=false=>iok (i40-1) uu0)) (ai (fun k8:(decide (i40>0))=true=>have _:=Qb k8; (fun k7:(!(F31 F208 ((F32 s 44).getD i40.toNat default)))=false=>(uu0:ib (i40-1) (F32 s 44)))) (ai (fun k10:(decide (i40>0))=true=>have _:=Qb k10; (fun k9:(!(F31 F208 ((F32 s 44).getD i40.toNat default)))=false=>(uu0:ib i40 (F32 s 44)))) (ifb (bif (!(F31 F208 ((F32 s 44).getD i40.toNat default))) then true else (bif decide (i40>0) then (!(Op.bytesLess ((F32 s 44).getD (i40-1).toNat default).toList ((F32 s 44).getD i40.toNat default).toList)) else false)) (fun h11=>fiB false (F200 s) (condF h1 (finR (Um hI0 (condT h4 (condT h11 rfl))) rfl))) (fun h11=>ai (iok (i40+1) uu0) (Ujc s i0 m0 (i40+1) hl0 (Ud hI0 (condT h4 (condF h11 rfl))) uu5))))))))) (fun h4 _=>have hD0_12:Qwl s=Lp.done i40:=Uh hI0 (condF h4 rfl); fiB true (F200 s) (condF h1 (finD hD0_12 rfl)))) (i0.1-1) i0.2 (Uix s i0 hi0))))) uu1
theorem Qqg (s:Za) {K_:Prop} (p0_:s.size<=1048576) (k_:K_):(s.size<=1048576)/\(Imp (.v (.string s)) (.v (.string s)))/\K_:=⟨p0_,Imp.refl _,k_⟩
theorem Qoq {K_:Prop} (c_ b_:Bool) (s:Za) (p_:c_=b_->s.size<=1048576) (k_:K_):(c_=b_->s.size<=1048576)/\(c_=b_->Imp (.v (.string s)) (.v (.string s)))/\K_:=⟨p_,fun _=>Imp.refl _,k_⟩
abbrev Mo (s:Za):Hint true Tryz.prog:=.call 191 (S191 s) (ok191 s) none
theorem kc204 (n:Int) {K_:Prop} (p0_:0<=n) (q0_:0<=n) (q1_:n<=16) (k_:(1<=(F204 n)/\(F204 n)<=65536)->(0<=n->n<=16->1<=(F204 n)/\(F204 n)<=65536)->K_):(0<=n)/\(Imp (.v (vI n)) (.v (vI n)))/\K_:=⟨p0_,Imp.refl _,k_ (Qlu n q0_ q1_) (Qlu n)⟩
abbrev kh204 (n:Int):Hint true Tryz.prog:=.call 204 (S204 n) (ok204 n) none
def F189 (s:Za):Int×Int :=
 bif (bif (bif (((F32 s 47).length:Int) != 2) then true else decide ((F191 ((F32 s 47).getD (Int.toNat 0) default))<0)) then true else (!(decide (0<=F194 ((F32 s 47).getD (Int.toNat 1) default)/\F194 ((F32 s 47).getD (Int.toNat 1) default)<=16)))) then ((-1),0) else (bif (((F191 ((F32 s 47).getD (Int.toNat 0) default)).tmod (F204 (F194 ((F32 s 47).getD (Int.toNat 1) default)))) != 0) then ((-1),0) else ((F191 ((F32 s 47).getD (Int.toNat 0) default)),(F204 (F194 ((F32 s 47).getD (Int.toNat 1) default)))))
theorem Ufe (s:Za) (r:Int×Int) (hF:r=(F189 s)):((.int .i64 r.1:Value)=.int .i64 (F189 s).1)/\((.int .i64 r.2:Value)=.int .i64 (F189 s).2)/\True:=by cases hF; exact ⟨rfl,rfl,trivial⟩
def S189 (s:Za):Spec:=⟨[.r (.c (.v (.string s)))],.tu [.v (vI (F189 s).1),.v (vI (F189 s).2)],s.size<=1048576⟩
theorem ok189 (s:Za):(S189 s).ok Tryz.prog 189 :=
 Ue mixed (fn:=Tryz.f189) (ct:=.seq .no (.seq (.reg [(1,kh32 s 47)]) (.seq (.seq (.reg [(7,Mo ((F32 s 47).getD (Int.toNat 0) default)),(14,Wx ((F32 s 47).getD (Int.toNat 1) default) 0 16)]) (.cond (.seq .no .no) .no)) (.seq (.reg [(3,Mo ((F32 s 47).getD (Int.toNat 0) default))]) (.seq (.reg [(3,Qcz ((F32 s 47).getD (Int.toNat 1) default)),(4,kh204 (F194 ((F32 s 47).getD (Int.toNat 1) default)))]) (.seq (.seq .no (.cond (.seq .no .no) .no)) (.seq .no .no))))))) Tryz.func189 (fun (hpre0:s.size<=1048576)=>kc32 s 47 uu0 uu0 (fun gv1=>ai (fun k2:(((F32 s 47).length:Int) != 2)=false=>have _:=bneF k2; (uu0:ib 0 (F32 s 47))) (Qoq (((F32 s 47).length:Int) != 2) false ((F32 s 47).getD (Int.toNat 0) default) (fun k3=>have _:=bneF k3; uu37) (ai (fun k4:(bif (((F32 s 47).length:Int) != 2) then true else decide ((F191 ((F32 s 47).getD (Int.toNat 0) default))<0))=false=>have _:=bneF (orF1 k4); have _:=Qp (orF2 k4); (uu0:ib 1 (F32 s 47))) (Wy (bif (((F32 s 47).length:Int) != 2) then true else decide ((F191 ((F32 s 47).getD (Int.toNat 0) default))<0)) false ((F32 s 47).getD (Int.toNat 1) default) 0 16 (fun k5=>have _:=bneF (orF1 k5); have _:=Qp (orF2 k5); uu37) (ifb (bif (bif (((F32 s 47).length:Int) != 2) then true else decide ((F191 ((F32 s 47).getD (Int.toNat 0) default))<0)) then true else (!(decide (0<=F194 ((F32 s 47).getD (Int.toNat 1) default)/\F194 ((F32 s 47).getD (Int.toNat 1) default)<=16)))) (fun h6=>Ufe s ((-1),0) (condT h6 rfl)) (fun h6=>have _:=bneF (orF1 (orF1 h6)); have _:=Qp (orF2 (orF1 h6)); have _:=Qb (Uw (orF2 h6)); ai (uu0:ib 0 (F32 s 47)) (Qqg ((F32 s 47).getD (Int.toNat 0) default) uu37 (ai (uu0:ib 1 (F32 s 47)) (Qwo ((F32 s 47).getD (Int.toNat 1) default) uu37 (kc204 (F194 ((F32 s 47).getD (Int.toNat 1) default)) uu0 uu0 uu0 (fun gv7 gv8=>ai (uu0:¬ (F204 (F194 ((F32 s 47).getD (Int.toNat 1) default)))=0) (ifn ((F191 ((F32 s 47).getD (Int.toNat 0) default)).tmod (F204 (F194 ((F32 s 47).getD (Int.toNat 1) default)))) 0 (fun h9 _=>Ufe s ((-1),0) (condF h6 (condT h9 rfl))) (fun h9 _=>Ufe s ((F191 ((F32 s 47).getD (Int.toNat 0) default)),(F204 (F194 ((F32 s 47).getD (Int.toNat 1) default)))) (condF h6 (condF h9 rfl)))))))))))))))) uu1
theorem Qjk (s:Za) {K_:Prop} (p0_:s.size<=1048576) (k_:K_):(s.size<=1048576)/\(Imp (.v (.string s)) (.v (.string s)))/\K_:=⟨p0_,Imp.refl _,k_⟩
abbrev Qiq (s:Za):Hint true Tryz.prog:=.call 189 (S189 s) (ok189 s) none
def F202 (s:Za):Bool :=
 decide ((F189 s).1>=0)
def S202 (s:Za):Spec:=⟨[.r (.c (.v (.string s)))],.v (.bool (F202 s)),s.size<=1048576⟩
theorem ok202 (s:Za):(S202 s).ok Tryz.prog 202 :=
 Ue mixed (fn:=Tryz.f202) (ct:=.seq .no (.seq (.reg [(1,Qiq s)]) (.seq .no .no))) Tryz.func202 (fun (hpre0:s.size<=1048576)=>Qjk s uu0 (fiB (decide ((F189 s).1>=0)) (F202 s) rfl)) uu1
theorem kc28 (s:Za) {K_:Prop} (p0_:s.size<=1048576) (k_:K_):(s.size<=1048576)/\(Imp (.v (.string s)) (.v (.string s)))/\K_:=⟨p0_,Imp.refl _,k_⟩
theorem kg28 {K_:Prop} (c_ b_:Bool) (s:Za) (p_:c_=b_->s.size<=1048576) (k_:K_):(c_=b_->s.size<=1048576)/\(c_=b_->Imp (.v (.string s)) (.v (.string s)))/\K_:=⟨p_,fun _=>Imp.refl _,k_⟩
abbrev kh28 (s:Za):Hint true Tryz.prog:=.call 28 (S28 s) (ok28 s) none
theorem kg200 {K_:Prop} (c_ b_:Bool) (s:Za) (p_:c_=b_->s.size<=1048576) (k_:K_):(c_=b_->s.size<=1048576)/\(c_=b_->Imp (.v (.string s)) (.v (.string s)))/\K_:=⟨p_,fun _=>Imp.refl _,k_⟩
abbrev kh200 (s:Za):Hint true Tryz.prog:=.call 200 (S200 s) (ok200 s) none
theorem Qow {K_:Prop} (c_ b_:Bool) (s:Za) (p_:c_=b_->s.size<=1048576) (k_:K_):(c_=b_->s.size<=1048576)/\(c_=b_->Imp (.v (.string s)) (.v (.string s)))/\K_:=⟨p_,fun _=>Imp.refl _,k_⟩
abbrev Qoe (s:Za):Hint true Tryz.prog:=.call 202 (S202 s) (ok202 s) none
def F173 (w1:List Za):Bool :=
 bif ((w1.length:Int)==0) then false else (bif ((w1.getD (Int.toNat 0) default).toList==Zl.toList) then (bif ((w1.length:Int)==2) then (F28 (w1.getD (Int.toNat 1) default)) else false) else (bif ((w1.getD (Int.toNat 0) default).toList==Zj.toList) then (bif (bif ((w1.length:Int)==3) then (F28 (w1.getD (Int.toNat 1) default)) else false) then (F200 (w1.getD (Int.toNat 2) default)) else false) else (bif ((w1.getD (Int.toNat 0) default).toList==Zd.toList) then (bif (bif (bif ((w1.length:Int)==3) then true else (bif (bif ((w1.length:Int)==5) then ((w1.getD (Int.toNat 3) default).toList==Zn.toList) else false) then (F28 (w1.getD (Int.toNat 4) default)) else false)) then (decide (0<=F194 (w1.getD (Int.toNat 1) default)/\F194 (w1.getD (Int.toNat 1) default)<=7)) else false) then (F202 (w1.getD (Int.toNat 2) default)) else false) else (bif ((w1.getD (Int.toNat 0) default).toList==Zf.toList) then (bif (bif (bif (bif (bif (bif ((w1.length:Int)==7) then (F28 (w1.getD (Int.toNat 1) default)) else false) then (decide (0<=F194 (w1.getD (Int.toNat 2) default)/\F194 (w1.getD (Int.toNat 2) default)<=99)) else false) then (bif ((w1.getD (Int.toNat 3) default).toList==Zo.toList) then true else ((w1.getD (Int.toNat 3) default).toList==Zp.toList)) else false) then (F202 (w1.getD (Int.toNat 4) default)) else false) then (F202 (w1.getD (Int.toNat 5) default)) else false) then (decide (0<=F194 (w1.getD (Int.toNat 6) default)/\F194 (w1.getD (Int.toNat 6) default)<=7)) else false) else (bif ((w1.getD (Int.toNat 0) default).toList==Zh.toList) then (bif (bif ((w1.length:Int)==3) then (F202 (w1.getD (Int.toNat 1) default)) else false) then decide ((F191 (w1.getD (Int.toNat 2) default))>=0) else false) else (bif ((w1.getD (Int.toNat 0) default).toList==Zg.toList) then (bif (bif (bif ((w1.length:Int)==4) then decide ((F191 (w1.getD (Int.toNat 1) default))>=0) else false) then (decide (1<=F194 (w1.getD (Int.toNat 2) default)/\F194 (w1.getD (Int.toNat 2) default)<=9)) else false) then (decide (1<=F194 (w1.getD (Int.toNat 3) default)/\F194 (w1.getD (Int.toNat 3) default)<=999999)) else false) else (bif ((w1.getD (Int.toNat 0) default).toList==Zc.toList) then (bif (bif (bif (bif ((w1.length:Int)==5) then (F202 (w1.getD (Int.toNat 1) default)) else false) then decide ((F191 (w1.getD (Int.toNat 2) default))>=0) else false) then (decide (1<=F194 (w1.getD (Int.toNat 3) default)/\F194 (w1.getD (Int.toNat 3) default)<=65535)) else false) then (decide (1<=F194 (w1.getD (Int.toNat 4) default)/\F194 (w1.getD (Int.toNat 4) default)<=65535)) else false) else (bif ((w1.getD (Int.toNat 0) default).toList==Zb.toList) then (bif (bif (bif (bif ((w1.length:Int)==5) then (decide (1<=F194 (w1.getD (Int.toNat 1) default)/\F194 (w1.getD (Int.toNat 1) default)<=7)) else false) then (decide (1<=F194 (w1.getD (Int.toNat 2) default)/\F194 (w1.getD (Int.toNat 2) default)<=65535)) else false) then decide ((F191 (w1.getD (Int.toNat 3) default))>=0) else false) then (decide (1<=F194 (w1.getD (Int.toNat 4) default)/\F194 (w1.getD (Int.toNat 4) default)<=65535)) else false) else false))))))))
def S173 (w1:List Za):Spec:=⟨[.r (.c (.l 1 eStr w1))],.v (.bool (F173 w1)),(∀ k:Nat,(w1.getD k default).size<=1048576)⟩
abbrev Us (w1:List Za):=(w1.getD (Int.toNat 1) default)
abbrev Uu (w1:List Za):=(w1.getD (Int.toNat 2) default)
abbrev Uy (w1:List Za):=(w1.getD (Int.toNat 3) default)
abbrev Zz (w1:List Za):=(w1.getD (Int.toNat 4) default)
abbrev La (w1:List Za):=(w1.getD (Int.toNat 0) default)
theorem ok173 (w1:List Za):(S173 w1).ok Tryz.prog 173 :=
 Ue mixed (fn:=Tryz.f173) (ct:=.seqk [(0,0)] .no (.seq .no (.seq (.seq .no (.cond (.seq .no .no) .no)) (.seq (.seq .no (.blk (.seq .no (.cond (.seq (.reg [(6,kh28 (Us w1))]) .no) (.seq .no (.cond (.seq (.reg [(6,kh28 (Us w1)),(12,kh200 (Uu w1))]) .no) (.seq .no (.cond (.seq (.reg [(15,kh28 (Zz w1)),(22,Wx (Us w1) 0 7),(28,Qoe (Uu w1))]) .no) (.seq .no (.cond (.seq (.reg [(6,kh28 (Us w1)),(12,Wx (Uu w1) 0 99),(30,Qoe (Zz w1)),(36,Qoe (w1.getD (Int.toNat 5) default)),(42,Wx (w1.getD (Int.toNat 6) default) 0 7)]) .no) (.seq .no (.cond (.seq (.reg [(6,Qoe (Us w1)),(12,Mo (Uu w1))]) .no) (.seq .no (.cond (.seq (.reg [(6,Mo (Us w1)),(13,Wx (Uu w1) 1 9),(19,Wx (Uy w1) 1 999999)]) .no) (.seq .no (.cond (.seq (.reg [(6,Qoe (Us w1)),(12,Mo (Uu w1)),(19,Wx (Uy w1) 1 65535),(25,Wx (Zz w1) 1 65535)]) .no) (.seq .no (.cond (.seq (.reg [(6,Wx (Us w1) 1 7),(12,Wx (Uu w1) 1 65535),(18,Mo (Uy w1)),(25,Wx (Zz w1) 1 65535)]) .no) .no)))))))))))))))))) (.seq .no .no))))) Tryz.func173 (fun (hpre0:∀ k:Nat,(w1.getD k default).size<=1048576)=>kn w1 fun _=>ife (w1.length:Int) 0 (fun h1 _=>fiB false (F173 w1) (condT h1 rfl)) (fun h1 _=>ai (uu9:0<=(0:Int)/\(0:Int)<(w1.length:Int)) (ifb ((La w1).toList==Zl.toList) (fun h2=>ai (fun k3:((w1.length:Int)==2)=true=>have _:=eq_of_beq k3; (uu9:0<=(1:Int)/\(1:Int)<(w1.length:Int))) (kg28 ((w1.length:Int)==2) true (Us w1) (fun k4=>have _:=eq_of_beq k4; uu10) (fiB (bif ((w1.length:Int)==2) then (F28 (Us w1)) else false) (F173 w1) (condF h1 (condT h2 rfl))))) (fun h2=>ifb ((La w1).toList==Zj.toList) (fun h5=>ai (fun k6:((w1.length:Int)==3)=true=>have _:=eq_of_beq k6; (uu9:0<=(1:Int)/\(1:Int)<(w1.length:Int))) (kg28 ((w1.length:Int)==3) true (Us w1) (fun k7=>have _:=eq_of_beq k7; uu10) (ai (fun k8:(bif ((w1.length:Int)==3) then (F28 (Us w1)) else false)=true=>have _:=eq_of_beq (Uc k8); (uu9:0<=(2:Int)/\(2:Int)<(w1.length:Int))) (kg200 (bif ((w1.length:Int)==3) then (F28 (Us w1)) else false) true (Uu w1) (fun k9=>have _:=eq_of_beq (Uc k9); uu10) (fiB (bif (bif ((w1.length:Int)==3) then (F28 (Us w1)) else false) then (F200 (Uu w1)) else false) (F173 w1) (condF h1 (condF h2 (condT h5 rfl)))))))) (fun h5=>ifb ((La w1).toList==Zd.toList) (fun h10=>ai (fun k12:((w1.length:Int)==5)=true=>have _:=eq_of_beq k12; (fun k11:((w1.length:Int)==3)=false=>have _:=beqF k11; (uu9:0<=(3:Int)/\(3:Int)<(w1.length:Int)))) (ai (fun k14:(bif ((w1.length:Int)==5) then ((Uy w1).toList==Zn.toList) else false)=true=>have _:=eq_of_beq (Uc k14); have _:((Uy w1).toList==Zn.toList)=true:=(Ut k14); (fun k13:((w1.length:Int)==3)=false=>have _:=beqF k13; (uu9:0<=(4:Int)/\(4:Int)<(w1.length:Int)))) (ai (fun k16:(bif ((w1.length:Int)==5) then ((Uy w1).toList==Zn.toList) else false)=true=>have _:=eq_of_beq (Uc k16); have _:((Uy w1).toList==Zn.toList)=true:=(Ut k16); (fun k15:((w1.length:Int)==3)=false=>have _:=beqF k15; (uu10:(Zz w1).size<=1048576))) (ai (fun k18:(bif ((w1.length:Int)==5) then ((Uy w1).toList==Zn.toList) else false)=true=>have _:=eq_of_beq (Uc k18); have _:((Uy w1).toList==Zn.toList)=true:=(Ut k18); (fun k17:((w1.length:Int)==3)=false=>have _:=beqF k17; (Imp.refl (.v (.string (Zz w1)))))) (ai (fun k19:(bif ((w1.length:Int)==3) then true else (bif (bif ((w1.length:Int)==5) then ((Uy w1).toList==Zn.toList) else false) then (F28 (Zz w1)) else false))=true=>(uu55:0<=(1:Int)/\(1:Int)<(w1.length:Int))) (Wy (bif ((w1.length:Int)==3) then true else (bif (bif ((w1.length:Int)==5) then ((Uy w1).toList==Zn.toList) else false) then (F28 (Zz w1)) else false)) true (Us w1) 0 7 (fun k20=>uu10) (ai (fun k21:(bif (bif ((w1.length:Int)==3) then true else (bif (bif ((w1.length:Int)==5) then ((Uy w1).toList==Zn.toList) else false) then (F28 (Zz w1)) else false)) then (decide (0<=F194 (Us w1)/\F194 (Us w1)<=7)) else false)=true=>have _:=Qb (Ut k21); (uu55:0<=(2:Int)/\(2:Int)<(w1.length:Int))) (Qow (bif (bif ((w1.length:Int)==3) then true else (bif (bif ((w1.length:Int)==5) then ((Uy w1).toList==Zn.toList) else false) then (F28 (Zz w1)) else false)) then (decide (0<=F194 (Us w1)/\F194 (Us w1)<=7)) else false) true (Uu w1) (fun k22=>have _:=Qb (Ut k22); uu10) (fiB (bif (bif (bif ((w1.length:Int)==3) then true else (bif (bif ((w1.length:Int)==5) then ((Uy w1).toList==Zn.toList) else false) then (F28 (Zz w1)) else false)) then (decide (0<=F194 (Us w1)/\F194 (Us w1)<=7)) else false) then (F202 (Uu w1)) else false) (F173 w1) (condF h1 (condF h2 (condF h5 (condT h10 rfl))))))))))))) (fun h10=>ifb ((La w1).toList==Zf.toList) (fun h23=>ai (fun k24:((w1.length:Int)==7)=true=>have _:=eq_of_beq k24; (uu9:0<=(1:Int)/\(1:Int)<(w1.length:Int))) (kg28 ((w1.length:Int)==7) true (Us w1) (fun k25=>have _:=eq_of_beq k25; uu10) (ai (fun k26:(bif ((w1.length:Int)==7) then (F28 (Us w1)) else false)=true=>have _:=eq_of_beq (Uc k26); (uu9:0<=(2:Int)/\(2:Int)<(w1.length:Int))) (Wy (bif ((w1.length:Int)==7) then (F28 (Us w1)) else false) true (Uu w1) 0 99 (fun k27=>have _:=eq_of_beq (Uc k27); uu10) (ai (fun k28:(bif (bif ((w1.length:Int)==7) then (F28 (Us w1)) else false) then (decide (0<=F194 (Uu w1)/\F194 (Uu w1)<=99)) else false)=true=>have _:=eq_of_beq (Uc (Uc k28)); have _:=Qb (Ut k28); (uu9:0<=(3:Int)/\(3:Int)<(w1.length:Int))) (ai (fun k30:((Uy w1).toList==Zo.toList)=false=>(fun k29:(bif (bif ((w1.length:Int)==7) then (F28 (Us w1)) else false) then (decide (0<=F194 (Uu w1)/\F194 (Uu w1)<=99)) else false)=true=>have _:=eq_of_beq (Uc (Uc k29)); have _:=Qb (Ut k29); (uu9:0<=(3:Int)/\(3:Int)<(w1.length:Int)))) (ai (fun k31:(bif (bif (bif ((w1.length:Int)==7) then (F28 (Us w1)) else false) then (decide (0<=F194 (Uu w1)/\F194 (Uu w1)<=99)) else false) then (bif ((Uy w1).toList==Zo.toList) then true else ((Uy w1).toList==Zp.toList)) else false)=true=>have _:=eq_of_beq (Uc (Uc (Uc k31))); have _:=Qb (Ut (Uc k31)); (uu9:0<=(4:Int)/\(4:Int)<(w1.length:Int))) (Qow (bif (bif (bif ((w1.length:Int)==7) then (F28 (Us w1)) else false) then (decide (0<=F194 (Uu w1)/\F194 (Uu w1)<=99)) else false) then (bif ((Uy w1).toList==Zo.toList) then true else ((Uy w1).toList==Zp.toList)) else false) true (Zz w1) (fun k32=>have _:=eq_of_beq (Uc (Uc (Uc k32))); have _:=Qb (Ut (Uc k32)); uu10) (ai (fun k33:(bif (bif (bif (bif ((w1.length:Int)==7) then (F28 (Us w1)) else false) then (decide (0<=F194 (Uu w1)/\F194 (Uu w1)<=99)) else false) then (bif ((Uy w1).toList==Zo.toList) then true else ((Uy w1).toList==Zp.toList)) else false) then (F202 (Zz w1)) else false)=true=>have _:=eq_of_beq (Uc (Uc (Uc (Uc k33)))); have _:=Qb (Ut (Uc (Uc k33))); (uu9:0<=(5:Int)/\(5:Int)<(w1.length:Int))) (Qow (bif (bif (bif (bif ((w1.length:Int)==7) then (F28 (Us w1)) else false) then (decide (0<=F194 (Uu w1)/\F194 (Uu w1)<=99)) else false) then (bif ((Uy w1).toList==Zo.toList) then true else ((Uy w1).toList==Zp.toList)) else false) then (F202 (Zz w1)) else false) true (w1.getD (Int.toNat 5) default) (fun k34=>have _:=eq_of_beq (Uc (Uc (Uc (Uc k34)))); have _:=Qb (Ut (Uc (Uc k34))); uu10) (ai (fun k35:(bif (bif (bif (bif (bif ((w1.length:Int)==7) then (F28 (Us w1)) else false) then (decide (0<=F194 (Uu w1)/\F194 (Uu w1)<=99)) else false) then (bif ((Uy w1).toList==Zo.toList) then true else ((Uy w1).toList==Zp.toList)) else false) then (F202 (Zz w1)) else false) then (F202 (w1.getD (Int.toNat 5) default)) else false)=true=>have _:=eq_of_beq (Uc (Uc (Uc (Uc (Uc k35))))); have _:=Qb (Ut (Uc (Uc (Uc k35)))); (uu9:0<=(6:Int)/\(6:Int)<(w1.length:Int))) (Wy (bif (bif (bif (bif (bif ((w1.length:Int)==7) then (F28 (Us w1)) else false) then (decide (0<=F194 (Uu w1)/\F194 (Uu w1)<=99)) else false) then (bif ((Uy w1).toList==Zo.toList) then true else ((Uy w1).toList==Zp.toList)) else false) then (F202 (Zz w1)) else false) then (F202 (w1.getD (Int.toNat 5) default)) else false) true (w1.getD (Int.toNat 6) default) 0 7 (fun k36=>have _:=eq_of_beq (Uc (Uc (Uc (Uc (Uc k36))))); have _:=Qb (Ut (Uc (Uc (Uc k36)))); uu10) (fiB (bif (bif (bif (bif (bif (bif ((w1.length:Int)==7) then (F28 (Us w1)) else false) then (decide (0<=F194 (Uu w1)/\F194 (Uu w1)<=99)) else false) then (bif ((Uy w1).toList==Zo.toList) then true else ((Uy w1).toList==Zp.toList)) else false) then (F202 (Zz w1)) else false) then (F202 (w1.getD (Int.toNat 5) default)) else false) then (decide (0<=F194 (w1.getD (Int.toNat 6) default)/\F194 (w1.getD (Int.toNat 6) default)<=7)) else false) (F173 w1) (condF h1 (condF h2 (condF h5 (condF h10 (condT h23 rfl)))))))))))))))))) (fun h23=>ifb ((La w1).toList==Zh.toList) (fun h37=>ai (fun k38:((w1.length:Int)==3)=true=>have _:=eq_of_beq k38; (uu9:0<=(1:Int)/\(1:Int)<(w1.length:Int))) (Qow ((w1.length:Int)==3) true (Us w1) (fun k39=>have _:=eq_of_beq k39; uu10) (ai (fun k40:(bif ((w1.length:Int)==3) then (F202 (Us w1)) else false)=true=>have _:=eq_of_beq (Uc k40); (uu9:0<=(2:Int)/\(2:Int)<(w1.length:Int))) (Qoq (bif ((w1.length:Int)==3) then (F202 (Us w1)) else false) true (Uu w1) (fun k41=>have _:=eq_of_beq (Uc k41); uu10) (fiB (bif (bif ((w1.length:Int)==3) then (F202 (Us w1)) else false) then decide ((F191 (Uu w1))>=0) else false) (F173 w1) (condF h1 (condF h2 (condF h5 (condF h10 (condF h23 (condT h37 rfl))))))))))) (fun h37=>ifb ((La w1).toList==Zg.toList) (fun h42=>ai (fun k43:((w1.length:Int)==4)=true=>have _:=eq_of_beq k43; (uu9:0<=(1:Int)/\(1:Int)<(w1.length:Int))) (Qoq ((w1.length:Int)==4) true (Us w1) (fun k44=>have _:=eq_of_beq k44; uu10) (ai (fun k45:(bif ((w1.length:Int)==4) then decide ((F191 (Us w1))>=0) else false)=true=>have _:=eq_of_beq (Uc k45); have _:=Qb (Ut k45); (uu9:0<=(2:Int)/\(2:Int)<(w1.length:Int))) (Wy (bif ((w1.length:Int)==4) then decide ((F191 (Us w1))>=0) else false) true (Uu w1) 1 9 (fun k46=>have _:=eq_of_beq (Uc k46); have _:=Qb (Ut k46); uu10) (ai (fun k47:(bif (bif ((w1.length:Int)==4) then decide ((F191 (Us w1))>=0) else false) then (decide (1<=F194 (Uu w1)/\F194 (Uu w1)<=9)) else false)=true=>have _:=eq_of_beq (Uc (Uc k47)); have _:=Qb (Ut (Uc k47)); have _:=Qb (Ut k47); (uu9:0<=(3:Int)/\(3:Int)<(w1.length:Int))) (Wy (bif (bif ((w1.length:Int)==4) then decide ((F191 (Us w1))>=0) else false) then (decide (1<=F194 (Uu w1)/\F194 (Uu w1)<=9)) else false) true (Uy w1) 1 999999 (fun k48=>have _:=eq_of_beq (Uc (Uc k48)); have _:=Qb (Ut (Uc k48)); have _:=Qb (Ut k48); uu10) (fiB (bif (bif (bif ((w1.length:Int)==4) then decide ((F191 (Us w1))>=0) else false) then (decide (1<=F194 (Uu w1)/\F194 (Uu w1)<=9)) else false) then (decide (1<=F194 (Uy w1)/\F194 (Uy w1)<=999999)) else false) (F173 w1) (condF h1 (condF h2 (condF h5 (condF h10 (condF h23 (condF h37 (condT h42 rfl)))))))))))))) (fun h42=>ifb ((La w1).toList==Zc.toList) (fun h49=>ai (fun k50:((w1.length:Int)==5)=true=>have _:=eq_of_beq k50; (uu9:0<=(1:Int)/\(1:Int)<(w1.length:Int))) (Qow ((w1.length:Int)==5) true (Us w1) (fun k51=>have _:=eq_of_beq k51; uu10) (ai (fun k52:(bif ((w1.length:Int)==5) then (F202 (Us w1)) else false)=true=>have _:=eq_of_beq (Uc k52); (uu9:0<=(2:Int)/\(2:Int)<(w1.length:Int))) (Qoq (bif ((w1.length:Int)==5) then (F202 (Us w1)) else false) true (Uu w1) (fun k53=>have _:=eq_of_beq (Uc k53); uu10) (ai (fun k54:(bif (bif ((w1.length:Int)==5) then (F202 (Us w1)) else false) then decide ((F191 (Uu w1))>=0) else false)=true=>have _:=eq_of_beq (Uc (Uc k54)); have _:=Qb (Ut k54); (uu9:0<=(3:Int)/\(3:Int)<(w1.length:Int))) (Wy (bif (bif ((w1.length:Int)==5) then (F202 (Us w1)) else false) then decide ((F191 (Uu w1))>=0) else false) true (Uy w1) 1 65535 (fun k55=>have _:=eq_of_beq (Uc (Uc k55)); have _:=Qb (Ut k55); uu10) (ai (fun k56:(bif (bif (bif ((w1.length:Int)==5) then (F202 (Us w1)) else false) then decide ((F191 (Uu w1))>=0) else false) then (decide (1<=F194 (Uy w1)/\F194 (Uy w1)<=65535)) else false)=true=>have _:=eq_of_beq (Uc (Uc (Uc k56))); have _:=Qb (Ut (Uc k56)); have _:=Qb (Ut k56); (uu9:0<=(4:Int)/\(4:Int)<(w1.length:Int))) (Wy (bif (bif (bif ((w1.length:Int)==5) then (F202 (Us w1)) else false) then decide ((F191 (Uu w1))>=0) else false) then (decide (1<=F194 (Uy w1)/\F194 (Uy w1)<=65535)) else false) true (Zz w1) 1 65535 (fun k57=>have _:=eq_of_beq (Uc (Uc (Uc k57))); have _:=Qb (Ut (Uc k57)); have _:=Qb (Ut k57); uu10) (fiB (bif (bif (bif (bif ((w1.length:Int)==5) then (F202 (Us w1)) else false) then decide ((F191 (Uu w1))>=0) else false) then (decide (1<=F194 (Uy w1)/\F194 (Uy w1)<=65535)) else false) then (decide (1<=F194 (Zz w1)/\F194 (Zz w1)<=65535)) else false) (F173 w1) (condF h1 (condF h2 (condF h5 (condF h10 (condF h23 (condF h37 (condF h42 (condT h49 rfl))))))))))))))))) (fun h49=>ifb ((La w1).toList==Zb.toList) (fun h58=>ai (fun k59:((w1.length:Int)==5)=true=>have _:=eq_of_beq k59; (uu9:0<=(1:Int)/\(1:Int)<(w1.length:Int))) (Wy ((w1.length:Int)==5) true (Us w1) 1 7 (fun k60=>have _:=eq_of_beq k60; uu10) (ai (fun k61:(bif ((w1.length:Int)==5) then (decide (1<=F194 (Us w1)/\F194 (Us w1)<=7)) else false)=true=>have _:=eq_of_beq (Uc k61); have _:=Qb (Ut k61); (uu9:0<=(2:Int)/\(2:Int)<(w1.length:Int))) (Wy (bif ((w1.length:Int)==5) then (decide (1<=F194 (Us w1)/\F194 (Us w1)<=7)) else false) true (Uu w1) 1 65535 (fun k62=>have _:=eq_of_beq (Uc k62); have _:=Qb (Ut k62); uu10) (ai (fun k63:(bif (bif ((w1.length:Int)==5) then (decide (1<=F194 (Us w1)/\F194 (Us w1)<=7)) else false) then (decide (1<=F194 (Uu w1)/\F194 (Uu w1)<=65535)) else false)=true=>have _:=eq_of_beq (Uc (Uc k63)); have _:=Qb (Ut (Uc k63)); have _:=Qb (Ut k63); (uu9:0<=(3:Int)/\(3:Int)<(w1.length:Int))) (Qoq (bif (bif ((w1.length:Int)==5) then (decide (1<=F194 (Us w1)/\F194 (Us w1)<=7)) else false) then (decide (1<=F194 (Uu w1)/\F194 (Uu w1)<=65535)) else false) true (Uy w1) (fun k64=>have _:=eq_of_beq (Uc (Uc k64)); have _:=Qb (Ut (Uc k64)); have _:=Qb (Ut k64); uu10) (ai (fun k65:(bif (bif (bif ((w1.length:Int)==5) then (decide (1<=F194 (Us w1)/\F194 (Us w1)<=7)) else false) then (decide (1<=F194 (Uu w1)/\F194 (Uu w1)<=65535)) else false) then decide ((F191 (Uy w1))>=0) else false)=true=>have _:=eq_of_beq (Uc (Uc (Uc k65))); have _:=Qb (Ut (Uc (Uc k65))); have _:=Qb (Ut (Uc k65)); have _:=Qb (Ut k65); (uu9:0<=(4:Int)/\(4:Int)<(w1.length:Int))) (Wy (bif (bif (bif ((w1.length:Int)==5) then (decide (1<=F194 (Us w1)/\F194 (Us w1)<=7)) else false) then (decide (1<=F194 (Uu w1)/\F194 (Uu w1)<=65535)) else false) then decide ((F191 (Uy w1))>=0) else false) true (Zz w1) 1 65535 (fun k66=>have _:=eq_of_beq (Uc (Uc (Uc k66))); have _:=Qb (Ut (Uc (Uc k66))); have _:=Qb (Ut (Uc k66)); have _:=Qb (Ut k66); uu10) (fiB (bif (bif (bif (bif ((w1.length:Int)==5) then (decide (1<=F194 (Us w1)/\F194 (Us w1)<=7)) else false) then (decide (1<=F194 (Uu w1)/\F194 (Uu w1)<=65535)) else false) then decide ((F191 (Uy w1))>=0) else false) then (decide (1<=F194 (Zz w1)/\F194 (Zz w1)<=65535)) else false) (F173 w1) (condF h1 (condF h2 (condF h5 (condF h10 (condF h23 (condF h37 (condF h42 (condF h49 (condT h58 rfl)))))))))))))))))) (fun h58=>fiB false (F173 w1) (condF h1 (condF h2 (condF h5 (condF h10 (condF h23 (condF h37 (condF h42 (condF h49 (condF h58 rfl)))))))))))))))))))) uu1
def Wk (list:List Za) (with':Za):(Za×Int)->Lp (Za×Int) Za:=fun (out,i40) =>
 bif (decide (i40<(list.length:Int))) then (bif (decide (i40>0)) then (.next (((out++with')++(list.getD i40.toNat default)),(i40+1))) else (.next ((out++(list.getD i40.toNat default)),(i40+1)))) else (.done (out,i40))
def F174 (list:List Za) (with':Za):Za :=
 (runL (Wk list with') (((list.length:Int)-0).toNat+1) (Zi,0)).fin (fun r=>r) (fun (out,i40)=>out)
abbrev Qbd (list:List Za):Nat×(Za×Int):=((((list.length:Int)-0).toNat+1),(Zi,0))
abbrev Qld (list:List Za) (m39:Nat) (out:Za) (i40:Int):Prop:=Int.toNat ((list.length:Int)-i40)<m39/\(out.size:Int)<=i40*1048577/\(0:Int)<=i40
abbrev Quk (list:List Za) (with':Za):Lp (Za×Int) Za:=LpX (Wk list with') (Qbd list)
abbrev Qbb (list:List Za) (with':Za) (i:Nat×(Za×Int)):Prop:=LpJ (Wk list with') (Qbd list) i (Qld list i.1 i.2.1 i.2.2)
abbrev Qvs (list:List Za) (with':Za) (i:Nat×(Za×Int)) (m39:Nat) (out:Za) (i40:Int):Prop:=LpH (Wk list with') (Qbd list) i m39 (out,i40) (Qld list (m39+1) out i40)
abbrev Qxb (list:List Za) (with':Za) (out:Za) (i40:Int) (out_:Za) (i40_:Int) (K39:Prop):Prop:=(Rf (.string with'))/\((.string out:Value)=.string out_)/\((.int .i64 i40:Value)=.int .i64 i40_)/\(Im (.l 1 eStr list))/\K39
theorem Ukp (list:List Za) (with':Za) (i:Nat×(Za×Int)) (h:Qbb list with' i):Qvs list with' i (i.1-1) i.2.1 i.2.2:=⟨hd1 h.1 h.2.1,hd3 h.2.1,hd2 h.2.1,h.2.2⟩
theorem Qux (list:List Za) (with':Za) (i:Nat×(Za×Int)) (m39:Nat) (out:Za) (i40:Int) (hl:m39<i.1) (e:runL (Wk list with') m39 (out,i40)=Quk list with') (h:Qld list m39 out i40):∃ j:Nat×(Za×Int),Qxb list with' out i40 j.2.1 j.2.2 (Qbb list with' j/\j.1<i.1):=⟨(m39,(out,i40)),rfl,rfl,rfl,Imp.refl _,⟨e,h⟩,hl⟩
theorem Une (list:List Za) (with':Za) (h:(Zi.size:Int)<=0*1048577/\(0:Int)<=0):Qxb list with' Zi 0 Zi 0 (Qbb list with' (Qbd list)):=⟨rfl,rfl,rfl,Imp.refl _,rfl,Qn _,h⟩
def S174 (list:List Za) (with':Za):Spec:=⟨[.r (.c (.l 1 eStr list)),.r (.c (.v (.string with')))],.v (.string (F174 list with')),list.length<=8/\(∀ k:Nat,(list.getD k default).size<=1048576)/\with'.size<=1⟩
theorem ok174 (list:List Za) (with':Za):(S174 list with').ok Tryz.prog 174 :=
 Ue mixed (fn:=Tryz.f174) (ct:=.seqk [(0,0)] .no (.seq .no (.seq (.seqk [(0,0)] .no (.blk (.loop (ι:=Nat×(Za×Int)) (fun i=>(fun (out:Za) (i40:Int)=>(⟨[(0,some (.h 0 0)),(1,some (.v (.string with'))),(5,some (.v (.string out))),(6,some (.v (vI i40)))],[(0,some (.shr none (.l 1 eStr list)))],1⟩:St)) i.2.1 i.2.2) (Qbb list with') (fun i=>i.1) (Qbd list) (fun i=>(fun (out:Za) (i40:Int)=>(.seq (.seq .no (.cond .no .no)) (.seq (.blk (.seq (.seq .no (.cond .no .no)) .no)) (.reg [(1,.bnd)])))) i.2.1 i.2.2)))) (.seq .no .no)))) Tryz.func174 (fun (hp:list.length<=8/\(∀ k:Nat,(list.getD k default).size<=1048576)/\with'.size<=1)=>have hpre0:=hp.1; have hpre1:=hp.2.1; have hpre2:=hp.2.2; kn list fun _=>kn list fun _=>ai (Une list with' (by refine ⟨?_,?_⟩ <;> ((try simp only [Qaq,sz0] at *); omega))) (fun (i0:Nat×(Za×Int)) (hi0:Qbb list with' i0)=>(fun (m0:Nat) (out:Za) (i40:Int) (hh0:Qvs list with' i0 m0 out i40)=>have hI0:=hh0.1; have hl0:=hh0.2.1; have _:=hh0.2.2.1; have _:=hh0.2.2.2; ifd (i40<(list.length:Int)) (fun h2 _=>ifd (i40>0) (fun h3 _=>ai (uu48:((out.size+with'.size:Nat):Int)<=9223372036854775807) (ai (uu0:ib i40 list) (ai (uu48:(((out++with').size+(list.getD i40.toNat default).size:Nat):Int)<=9223372036854775807) (ai (iok (i40+1) uu0) (Qux list with' i0 m0 ((out++with')++(list.getD i40.toNat default)) (i40+1) hl0 (Ud hI0 (condT h2 (condT h3 rfl))) uu56))))) (fun h3 _=>ai (uu0:ib i40 list) (ai (uu48:((out.size+(list.getD i40.toNat default).size:Nat):Int)<=9223372036854775807) (ai (iok (i40+1) uu0) (Qux list with' i0 m0 (out++(list.getD i40.toNat default)) (i40+1) hl0 (Ud hI0 (condT h2 (condF h3 rfl))) uu56))))) (fun h2 _=>have hD0_4:Quk list with'=Lp.done (out,i40):=Uh hI0 (condF h2 rfl); fiS out (F174 list with') (finD hD0_4 rfl))) (i0.1-1) i0.2.1 i0.2.2 (Ukp list with' i0 hi0))) uu1
def Jb (b:UInt8):Bool:=decide (48<=b.toNat/\b.toNat<=57)
def valL (acc:Nat) (l:List UInt8):Nat:=l.foldl (fun a b=>a*10+(b.toNat-48)) acc
theorem Qko (acc:Nat) (l:List UInt8) (b:UInt8):valL acc (l++[b])=valL acc l*10+(b.toNat-48):=by
 simp [valL,List.foldl_append]
def Wi (l:List UInt8):Bool:=!l.isEmpty&&l.all Jb&&!(decide (l.length>1)&&(l.getD 0 0==48))
theorem Qve:∀ (l:List UInt8) (acc:Nat),acc<=valL acc l
 | [],acc=>Qq _
 | b :: l,acc=>Q5 uu0 (Qve l (acc*10+(b.toNat-48)))
theorem Vt {b:UInt8} (h:Jb b=true):48<=b.toNat/\b.toNat<=57:=Qb h
theorem Qjj {b:UInt8} (h:Jb b=true):UInt8.ofNat (48+(b.toNat-48))=b:=by
 have:=Vt h
 rw [show 48+(b.toNat-48)=b.toNat by omega]
 exact UInt8.ofNat_toNat
theorem Qim {b:UInt8} {l:List UInt8} (h:Wi (b :: l)=true) (hl:l≠[]):1<=valL 0 (b :: l):=by
 unfold Wi at h
 simp only [Qo,Tl,Rr] at h
 obtain ⟨⟨_,hb,_⟩,h0⟩:=h
 have hd:=Vt hb
 have hlen:decide ((b :: l).length>1)=true:=Qs (by
  cases l with
  | nil=>exact absurd rfl hl
  | cons a l=>simp)
 rw [hlen,Sc] at h0
 have hne:b≠48:=by
  have:(b==48)=false:=h0
  exact Qz.1 this
 have h48:b.toNat≠48:=fun e=>hne (UInt8.toNat_inj.1 e)
 refine Q5 ?_ (Qve l (0*10+(b.toNat-48)))
 omega
theorem Uao {l:List UInt8} {b:UInt8} (hl:l≠[]) (h:Wi (l++[b])=true):Wi l=true:=by
 unfold Wi at h ⊢
 simp only [Qo,Tl,T7] at h ⊢
 obtain ⟨⟨_,ha,_⟩,h0⟩:=h
 cases l with
 | nil=>exact absurd rfl hl
 | cons a l =>
  refine ⟨⟨rfl,ha⟩,?_⟩
  have hlen:decide ((a :: l++[b]).length>1)=true:=Qs uu16
  rw [hlen,Sc] at h0
  have:(a==48)=false:=h0
  have e:((a :: l).getD 0 0==(48:UInt8))=false:=this
  rw [e,Sa]
theorem Quz:∀ (n:Nat) (l:List UInt8),l.length=n->Wi l=true->Lib.decDigits (valL 0 l)=l
 | 0,l,hn,h=>by
  rw [List.length_eq_zero_iff.1 hn] at h; cases h
 | n+1,l,hn,h=>by
  have hne:l≠[]:=fun e=>by rw [e] at hn; cases hn
  obtain ⟨i,b,rfl⟩:∃ i b,l=i++[b]:=⟨l.dropLast,l.getLast hne,(List.dropLast_concat_getLast hne).symm⟩
  have hdb:Jb b=true:=by
   unfold Wi at h
   simp only [Qo,T7,Rr] at h
   exact h.1.2.2.1
  have hb:=Vt hdb
  rw [Qko]
  by_cases hi:i=[]
  ·subst hi
   have e:valL 0 ([]:List UInt8)*10+(b.toNat-48)=b.toNat-48:=by simp [valL]
   rw [e,Lib.decDigits_one uu0,Qjj hdb]; rfl
  ·have hin:=Uao hi h
   have hpos:1<=valL 0 i*10+(b.toNat-48):=by
    cases i with
    | nil=>exact absurd rfl hi
    | cons a i =>
     have:=Qim (b:=a) (l:=i++[b]) h uu16
     have e:=Qko 0 (a :: i) b
     rw [Tc] at e
     omega
   have hip:1<=valL 0 i:=by
    cases i with
    | nil=>exact absurd rfl hi
    | cons a i =>
     by_cases hi2:i=[]
     ·subst hi2
      have h0:=h
      unfold Wi at h0
      simp only [Qo,Tl,T7,Rr] at h0
      have hd:=Vt h0.1.2.1.1
      have h1:(a==48)=false:=by
       have:=h0.2
       rw [show decide (([a]++[b]).length>1)=true from rfl,Sc] at this
       exact this
      have h48:a.toNat≠48:=fun e=>Qz.1 h1 (UInt8.toNat_inj.1 e)
      simp only [valL,S3,List.foldl_nil]
      omega
     ·exact Qim hin hi2
   rw [Lib.decDigits,dif_neg uu0]
   have e1:(valL 0 i*10+(b.toNat-48)) / 10=valL 0 i:=by omega
   have e2:(valL 0 i*10+(b.toNat-48))%10=b.toNat-48:=by omega
   have hlen:i.length=n:=by
    rw [Ri] at hn
    simpa using hn
   rw [e1,e2,Quz n i hlen hin,Qjj hdb]
theorem Qup (u:Nat) (h:u<10):Jb (UInt8.ofNat (48+u))=true:=by
 unfold Jb
 rw [UInt8.toNat_ofNat']
 exact Qs uu0
theorem Qjs:∀ (n u:Nat),u<=n->Lib.decDigits u≠[]/\(Lib.decDigits u).all Jb=true/\(1<=u->(Lib.decDigits u).getD 0 0≠48)
 | n,u,hu=>by
  by_cases h:u<10
  ·rw [Lib.decDigits_one h]
   refine ⟨by simp,by rw [Rr,Qup u h]; rfl,fun h1 e=>?_⟩
   have e1:UInt8.ofNat (48+u)=48:=e
   have:=Qt UInt8.toNat e1
   rw [UInt8.toNat_ofNat'] at this
   have h48:(48:UInt8).toNat=48:=rfl
   omega
  ·cases n with
   | zero=>omega
   | succ n =>
    obtain ⟨h1,h2,h3⟩:=Qjs n (u / 10) uu0
    rw [Lib.decDigits,dif_neg h]
    refine ⟨by simp,by rw [T7,h2,Rr,Qup _ uu0]; rfl,fun _=>?_⟩
    cases hd:Lib.decDigits (u / 10) with
    | nil=>exact absurd hd h1
    | cons a l =>
     rw [hd] at h3
     exact h3 uu0
theorem Uep (u:Nat):Wi (Lib.decDigits u)=true:=by
 obtain ⟨h1,h2,h3⟩:=Qjs u u (Qq _)
 unfold Wi
 have e1:(Lib.decDigits u).isEmpty=false:=by
  cases hd:Lib.decDigits u with
  | nil=>exact absurd hd h1
  | cons a l=>rfl
 rw [e1,h2]
 by_cases hu:1<=u
 ·have e:((Lib.decDigits u).getD 0 0==(48:UInt8))=false:=Qz.2 (h3 hu)
  rw [e,Sa]; rfl
 ·have e:Lib.decDigits u=[UInt8.ofNat (48+u)]:=Lib.decDigits_one uu0
  rw [e]; rfl
theorem Qjb:∀ (l:List UInt8) (acc:Nat),l.all Jb=true->(acc+1)*10 ^ l.length<=1000000000000000000->Lib.parseUint10 acc l=.ok (valL acc l)
 | [],acc,_,_=>rfl
 | b :: l,acc,h,hb=>by
  rw [Rr,Qo] at h
  have hd:=Vt h.1
  have hp:1<=10 ^ l.length:=Nat.one_le_pow _ _ uu0
  have e:(acc+1)*10 ^ (b :: l).length=((acc+1)*10)*10 ^ l.length:=by
   rw [Q4,Nat.pow_succ,T4 (10 ^ l.length) 10,Nat.mul_assoc]
  rw [e] at hb
  have h1:(acc+1)*10<=1000000000000000000:=Q5 (T3 _ hp) hb
  rw [Lib.parseUint10,if_pos hd,if_neg uu0,if_neg uu0]
  exact Qjb l _ h.2 (Q5 (Ra _ uu0) hb)
theorem Qmk:∀ (l:List UInt8) (acc:Nat),l.all Jb=true->valL acc l<(acc+1)*10 ^ l.length
 | [],acc,_=>by simp [valL]
 | b :: l,acc,h=>by
  rw [Rr,Qo] at h
  have hd:=Vt h.1
  have e:(acc+1)*10 ^ (b :: l).length=((acc+1)*10)*10 ^ l.length:=by
   rw [Q4,Nat.pow_succ,T4 (10 ^ l.length) 10,Nat.mul_assoc]
  rw [e]
  exact Rq (Qmk l (acc*10+(b.toNat-48)) h.2) (Ra _ uu0)
def num6 (l:List UInt8):Int:=bif Wi l&&decide (l.length<=6) then (valL 0 l:Int) else -1
theorem Qle (v:Int) (h:0<=v):Lib.itoa v=Lib.decDigits v.toNat:=by
 unfold Lib.itoa
 rw [if_neg uu0]
theorem Pv (s:Za) (h:s.size<=6):decN s=num6 s.data.toList:=by
 have hl:s.data.toList.length=s.size:=Q8
 unfold num6
 rw [Qs (show s.data.toList.length<=6 by omega),R7]
 cases hn:Wi s.data.toList with
 | true =>
  have hd:=Quz _ _ rfl hn
  have hn2:=hn
  unfold Wi at hn2
  simp only [Qo] at hn2
  have hall:=hn2.1.2
  have hp:=Qjb s.data.toList 0 hall (by
   have:10 ^ s.data.toList.length<=10 ^ 6:=Gk uu0 uu0
   omega)
  unfold decN
  cases hs:s.data.toList with
  | nil=>rw [hs] at hn; cases hn
  | cons b l =>
   rw [hs] at hall hp hd
   have hb:=Vt (Rc.1 hall b Ql)
   have hlt:=Lib.parseUint10_lt _ 0 _ uu0 hp
   have hsmall:valL 0 (b :: l)<9223372036854775808:=by
    have h1:=Qmk (b :: l) 0 hall
    have h2:10 ^ (b :: l).length<=10 ^ 6:=Gk uu0 (by rw [<- hs]; omega)
    omega
   have ea:Lib.atoiAll (b :: l)=.ok (valL 0 (b :: l):Int):=by
    unfold Lib.atoiAll
    simp only [if_neg (show ¬ (b.toNat=43\/b.toNat=45) by omega),Lib.parseMag,if_neg (show ¬ (b :: l=[]) by simp),hp]
    rw [if_neg uu0,if_neg uu0,if_neg uu0]
   rw [ea]
   have ei:Lib.itoa (valL 0 (b :: l):Int)=b :: l:=by
    rw [Qle _ uu0,Rk,hd]
   simp only [ei]
   rw [Qs uu0]
   simp
 | false =>
  unfold decN
  cases ha:Lib.atoiAll s.data.toList with
  | ok v =>
   by_cases h0:0<=v
   ·have e:(Lib.itoa v==s.data.toList)=false:=by
     rw [Qz]
     intro e
     rw [Qle v h0] at e
     rw [<- e,Uep] at hn
     cases hn
    simp only [e,Sa]; rfl
   ·simp only [Qk h0,Sr]; rfl
  | _=>rfl
theorem u8sub (b:UInt8) (h:Jb b=true):IntKind.i64.wrap (IntKind.u8.wrap ((b.toNat:Int)-48))=((b.toNat-48:Nat):Int):=by
 have hd:=Vt h
 have e:IntKind.u8.wrap ((b.toNat:Int)-48)=((b.toNat:Int)-48)%256:=by
  simp [IntKind.wrap,IntKind.signed,IntKind.bits]
 rw [e,Wg uu0 uu0]
 omega
theorem Ugi (b:UInt8):decide ((48:Int)<=(b.toNat:Int)/\(b.toNat:Int)<=57)=Jb b:=by
 unfold Jb
 congr 1
 exact propext ⟨fun h=>by omega,fun h=>by omega⟩
theorem Udv (s:Za) (a i:Nat) (hi:i<s.size) (ha:a<=100000000) (b:UInt8) (hb:s.data.toList.getD i 0=b):Jm s ((a:Int),(i:Int)) =
  if Jb b=false then .ret (-1) else .next (((a*10+(b.toNat-48):Nat):Int),((i+1:Nat):Int)):=by
 simp only [Jm,Qs (show (i:Int)<(s.size:Int) by omega),Qc,Rk,Wq,hb,Qlp,Ugi]
 cases hd:Jb b with
 | false=>rfl
 | true =>
  have h1:=Vt hd
  rw [u8sub b hd,Wg (n:=(a:Int)*10) uu0 uu0,Wg uu0 uu0]
  simp only [Sv,Qe,Bool.true_eq_false,Gx]
  congr 2
theorem Qny (s:Za):∀ (m i a:Nat),i+m=s.size->(a+1)*10 ^ m<=10000000->∀ fuel,m<fuel ->
  (runL (Jm s) fuel ((a:Int),(i:Int))).fin (fun r=>r) (fun (n,i40)=>n)=bif (s.data.toList.drop i).all Jb then (valL a (s.data.toList.drop i):Int) else -1
 | m,i,a,_,_,0,hf=>absurd hf (Sq _)
 | 0,i,a,h,_,fuel+1,hf=>by
  have hl:s.data.toList.length=s.size:=Q8
  have hst:Jm s ((a:Int),(i:Int))=.done ((a:Int),(i:Int)):=by
   simp only [Jm,Qk (show ¬ (i:Int)<(s.size:Int) by omega),Qe]
  rw [Vb _ hst,Q7 uu0]
  rfl
 | m+1,i,a,h,ha,fuel+1,hf=>by
  have hl:s.data.toList.length=s.size:=Q8
  have hb:s.data.toList.drop i=s.data.toList.getD i 0 :: s.data.toList.drop (i+1):=by
   rw [Rg uu0,Qd,Qh uu0]; rfl
  have hp:1<=10 ^ m:=Nat.one_le_pow _ _ uu0
  have e:(a+1)*10 ^ (m+1)=((a+1)*10)*10 ^ m:=by
   rw [Nat.pow_succ,T4 (10 ^ m) 10,Nat.mul_assoc]
  rw [e] at ha
  have h1:(a+1)*10<=10000000:=Q5 (T3 _ hp) ha
  have hst:=Udv s a i uu0 uu0 _ rfl
  rw [hb,Rr]
  generalize s.data.toList.getD i 0=b at hst ⊢
  by_cases hd:Jb b=false
  ·rw [if_pos hd] at hst
   rw [Wm _ hst,hd]; rfl
  ·rw [if_neg hd] at hst
   have hd':Jb b=true:=by simpa using hd
   have hg:=Vt hd'
   rw [Kc _ hst,Qny s m (i+1) _ uu0 (Q5 (Ra _ uu0) ha) fuel uu0,hd',Sc]
   rfl
theorem Mt (s:Za):F194 s=num6 s.data.toList:=by
 have hl:s.data.toList.length=s.size:=Q8
 unfold F194 num6
 by_cases h1:(1:Int)<=(s.size:Int)/\(s.size:Int)<=6
 ·rw [Qs h1,Qs (show s.data.toList.length<=6 by omega),R7,Sv,Qe,Wq]
  have hp:(0+1)*10 ^ s.size<=10000000:=by
   have:10 ^ s.size<=10 ^ 6:=Gk uu0 uu0
   omega
  have hlp:=Qny s s.size 0 0 uu0 hp (Int.toNat ((s.size:Int)-0)+1) uu0
  rw [Rm] at hlp
  have hne:s.data.toList.isEmpty=false:=by
   cases hs:s.data.toList with
   | nil=>rw [hs] at hl; simp only [Se] at hl; omega
   | cons b l=>rfl
  have e48:=Qvk (s.data.toList.getD 0 0) 48
  have h48:((48:UInt8).toNat:Int)=48:=rfl
  rw [h48] at e48
  have e0:(Int.toNat 0)=0:=rfl
  rw [e0,e48,Wi,hne]
  have eq:(s.data.toList.getD 0 0==(48:UInt8))=decide (s.data.toList.getD 0 0=48):=by
   cases h:decide (s.data.toList.getD 0 0=48) with
   | true=>exact Sy.2 (Qb h)
   | false=>exact Qz.2 (Qp h)
  rw [eq]
  have eg:decide ((s.size:Int)>1)=decide (s.data.toList.length>1):=by
   by_cases hg:s.size>1
   ·rw [Qs uu0,Qs uu0]
   ·rw [Qk uu0,Qk uu0]
  rw [eg]
  refine (Qt (fun z=>bif (bif decide (s.data.toList.length>1) then decide (s.data.toList.getD 0 0=48) else false) then (-1:Int) else z) hlp).trans ?_
  cases decide (s.data.toList.length>1) <;> cases decide (s.data.toList.getD 0 0=48) <;> cases s.data.toList.all Jb <;> rfl
 ·rw [Qk h1,Gh,Qc,Qc]
  by_cases h6:s.data.toList.length<=6
  ·have hz:s.data.toList=[]:=List.length_eq_zero_iff.1 uu0
   rw [hz]; rfl
  ·rw [Qk h6,Sa]; rfl
theorem Qun:∀ (k u:Nat),u<10 ^ (k+1)->(Lib.decDigits u).length<=k+1
 | 0,u,h=>by
  rw [Lib.decDigits_one (by simpa using h)]; exact Qq _
 | k+1,u,h=>by
  by_cases hu:u<10
  ·rw [Lib.decDigits_one hu]; exact Gz (Qy _)
  ·have h1:u / 10<10 ^ (k+1):=by
    rw [Nat.pow_succ] at h
    exact Nat.div_lt_of_lt_mul (by rw [T4]; exact h)
   rw [Lib.decDigits,dif_neg hu,Ri]
   exact Gz (Qun k _ h1)
theorem Nh (s:Za):decN s=-1\/∃ u:Nat,decN s=(u:Int)/\Lib.decDigits u=s.data.toList:=by
 unfold decN
 cases ha:Lib.atoiAll s.data.toList with
 | ok v =>
  by_cases h0:0<=v
  ·cases he:(Lib.itoa v==s.data.toList) with
   | true =>
    refine .inr ⟨v.toNat,?_,?_⟩
    ·simp only [Qs h0,he,R7,Qc]
     omega
    ·rw [<- Qle v h0]; exact Sy.1 he
   | false=>refine .inl ?_; simp only [he,Sa]; rfl
  ·refine .inl ?_; simp only [Qk h0,Sr]; rfl
 | _=>exact .inl rfl
theorem Qqa (s:Za) (h:decN s<=999999):decN s=num6 s.data.toList:=by
 have hl:s.data.toList.length=s.size:=Q8
 by_cases hs:s.size<=6
 ·exact Pv s hs
 ·have e:num6 s.data.toList=-1:=by
   unfold num6
   rw [Qk (show ¬ s.data.toList.length<=6 by omega),Sa]; rfl
  rw [e]
  rcases Nh s with h1 | ⟨u,h1,h2⟩
  ·exact h1
  ·have h3:=Qun 5 u (by rw [h1] at h; have:10 ^ (5+1)=1000000:=rfl; omega)
   rw [h2] at h3
   omega
theorem Qxh (l:List UInt8):num6 l<=999999:=by
 unfold num6
 cases h:Wi l&&decide (l.length<=6) with
 | false=>rw [Qe]; omega
 | true =>
  rw [Qc]
  rw [Qo] at h
  have hn:=h.1
  unfold Wi at hn
  simp only [Qo] at hn
  have h1:=Qmk l 0 hn.1.2
  have h2:10 ^ l.length<=10 ^ 6:=Gk uu0 (Qb h.2)
  omega
def Kk (v:Int):Bool:=decide (0<=v/\v<=255)
def addr2:List (List UInt8)->Int
 | [a,b]=>bif Kk (num6 a)&&Kk (num6 b) then 256*num6 a+num6 b else -1
 | _=>-1
def Kv (l:List UInt8):Int:=addr2 (Uz 46 l)
theorem Qil (x y:Int) (hx:Kk x=true) (hy:Kk y=true):IntKind.i64.wrap (IntKind.i64.wrap (256*x)+y)=256*x+y:=by
 have h1:=Qb hx
 have h2:=Qb hy
 rw [Wg (n:=256*x) uu0 uu0,Wg uu0 uu0]
theorem Qcn (s:Za):F191 s=Kv s.data.toList:=by
 have hc:F32 s 46=(Uz 46 s.data.toList).map mkB:=Hd s 46
 unfold F191 Kv
 rw [hc]
 simp only [Mt]
 cases Uz 46 s.data.toList with
 | nil=>rfl
 | cons a t=>cases t with
  | nil=>rfl
  | cons b t=>cases t with
   | nil =>
    show (bif (bif (!(Kk (num6 a))) then true else (!(Kk (num6 b)))) then (-1) else (IntKind.i64.wrap ((IntKind.i64.wrap (256*num6 a))+num6 b)))=bif Kk (num6 a)&&Kk (num6 b) then 256*num6 a+num6 b else -1
    cases ha:Kk (num6 a) <;> cases hb:Kk (num6 b) <;> try rfl
    exact Qil _ _ ha hb
   | cons c t =>
    have:(((List.map mkB (a :: b :: c :: t)).length:Int) != 2)=true:=by
     rw [Gw]
     simp only [Rb,Q4,Sk]
     omega
    rw [this]; rfl
theorem Qqc (l:List UInt8):-1<=Kv l/\Kv l<=65535:=by
 unfold Kv
 cases Uz 46 l with
 | nil=>exact ⟨Int.le_refl _,(show (-1:Int)<=65535 by omega)⟩
 | cons a t=>cases t with
  | nil=>exact ⟨Int.le_refl _,(show (-1:Int)<=65535 by omega)⟩
  | cons b t=>cases t with
   | nil =>
    show -1<=(bif Kk (num6 a)&&Kk (num6 b) then 256*num6 a+num6 b else -1)/\(bif Kk (num6 a)&&Kk (num6 b) then 256*num6 a+num6 b else -1)<=65535
    cases h:Kk (num6 a)&&Kk (num6 b) with
    | false=>simp only [Qe]; omega
    | true =>
     rw [Qo] at h
     have h1:=Qb h.1
     have h2:=Qb h.2
     simp only [Qc]; omega
   | cons c t=>exact ⟨Int.le_refl _,(show (-1:Int)<=65535 by omega)⟩
theorem Udz (s:Za):Kk (decN s)=Kk (num6 s.data.toList)/\(Kk (decN s)=true->decN s=num6 s.data.toList):=by
 by_cases h:decN s<=999999
 ·rw [Qqa s h]; exact ⟨rfl,fun _=>rfl⟩
 ·have h1:Kk (decN s)=false:=Qk uu0
  have h2:num6 s.data.toList=-1:=by
   rcases Nh s with h3 | ⟨u,h3,h4⟩
   ·omega
   ·have hl:¬ s.data.toList.length<=6:=fun hle=>by
     have hl:s.data.toList.length=s.size:=Q8
     have:=Pv s uu0
     have:=Qxh s.data.toList
     omega
    unfold num6
    rw [Qk hl,Sa]; rfl
  rw [h1,h2]
  exact ⟨rfl,fun h=>by cases h⟩
theorem Uht:∀ l:List UInt8,46∈l->Wi l=false:=by
 intro l hm
 cases h:Wi l with
 | false=>rfl
 | true =>
  unfold Wi at h
  simp only [Qo] at h
  have:=Vt (Rc.1 h.1.2 _ hm)
  have e:(46:UInt8).toNat=46:=rfl
  omega
theorem Qzv {l:List UInt8} (h:46∈l):num6 l=-1:=by
 unfold num6
 rw [Uht l h,Sr]; rfl
theorem Qdd (s:Za):F165 s=Kv s.data.toList:=by
 have e209:∀ t:Za,F196 t=decN t:=fun _=>rfl
 have e87:∀ t u:Za,F34 t u=cut3 t u:=fun _ _=>rfl
 unfold F165 Kv
 simp only [e209,e87]
 rcases Md s 46 with ⟨h1,h2⟩ | ⟨a,b,h1,h2,h3⟩
 ·rw [h2,Yx h1]; rfl
 ·rw [h3,h1,Ki b h2]
  show (bif (bif (!true) then true else (!(Kk (decN (mkB a))))) then true else (!(Kk (decN (mkB b))))) |> fun z=>(bif z then (-1) else (IntKind.i64.wrap ((IntKind.i64.wrap (256*decN (mkB a)))+decN (mkB b))))=addr2 (a :: Uz 46 b)
  have da:=Udz (mkB a)
  have db:=Udz (mkB b)
  rw [Qey] at da db
  rw [da.1,db.1]
  by_cases hb:(46:UInt8)∈b
  ·have hn:num6 b=-1:=Qzv hb
   have e2:Kk (num6 b)=false:=by rw [hn]; rfl
   rw [e2]
   have e3:∃ x y t,Uz 46 b=x :: y :: t:=by
    rcases Jv 46 b with ⟨_,h⟩ | ⟨x,y,hx,hx2,_⟩
    ·exact absurd hb h
    ·rw [hx,Ki y hx2]
     cases hs:Uz 46 y with
     | nil =>
      cases y with
      | nil=>cases hs
      | cons c y =>
       rw [Uz] at hs
       split at hs
       ·cases hs
       ·split at hs <;> cases hs
     | cons p t=>exact ⟨_,_,_,rfl⟩
   obtain ⟨x,y,t,e3⟩:=e3
   rw [e3]
   cases Kk (num6 a) <;> rfl
  ·rw [Yx hb]
   show _=bif Kk (num6 a)&&Kk (num6 b) then 256*num6 a+num6 b else -1
   cases ha:Kk (num6 a) <;> cases hb2:Kk (num6 b) <;> try rfl
   have h4:=da.2 (by rw [da.1]; exact ha)
   have h5:=db.2 (by rw [db.1]; exact hb2)
   rw [h4,h5]
   exact Qil _ _ ha hb2
theorem Qbh (s:Za):F165 s=F191 s:=(Qdd s).trans (Qcn s).symm
def in16 (v:Int):Bool:=decide (0<=v/\v<=16)
def pfx2:List (List UInt8)->Option (Int×Int)
 | [a,b]=>bif decide (0<=Kv a)&&(in16 (num6 b)&&((Kv a).tmod (F204 (num6 b))==0)) then some (Kv a,num6 b) else none
 | _=>none
def pfxL (l:List UInt8):Option (Int×Int):=pfx2 (Uz 47 l)
theorem Qhs (s:Za):F189 s=match pfxL s.data.toList with | some (a,n)=>(a,F204 n) | none=>(-1,0):=by
 have hc:F32 s 47=(Uz 47 s.data.toList).map mkB:=Hd s 47
 unfold F189 pfxL
 rw [hc]
 simp only [Mt,Qcn]
 cases Uz 47 s.data.toList with
 | nil=>rfl
 | cons a t=>cases t with
  | nil=>rfl
  | cons b t=>cases t with
   | nil =>
    show (bif (bif decide (Kv a<0) then true else (!(in16 (num6 b)))) then ((-1:Int),(0:Int)) else (bif ((Kv a).tmod (F204 (num6 b)) != 0) then ((-1),0) else (Kv a,F204 (num6 b))))=match pfx2 [a,b] with | some (a,n)=>(a,F204 n) | none=>(-1,0)
    have e:decide (Kv a<0)=!decide (0<=Kv a):=by
     by_cases h:0<=Kv a
     ·rw [Qs h,Qk uu0]; rfl
     ·rw [Qk h,Qs uu0]; rfl
    rw [e,bne,pfx2]
    cases decide (0<=Kv a) <;> cases in16 (num6 b) <;> cases ((Kv a).tmod (F204 (num6 b))==0) <;> rfl
   | cons c t =>
    have:(((List.map mkB (a :: b :: c :: t)).length:Int) != 2)=true:=by
     rw [Gw]
     simp only [Rb,Q4,Sk]
     omega
    rw [this]; rfl
theorem Qli {ws:List (List UInt8)} {a n:Int} (h:pfx2 ws=some (a,n)):0<=a/\a<=65535/\0<=n/\n<=16:=by
 cases ws with
 | nil=>cases h
 | cons x t=>cases t with
  | nil=>cases h
  | cons y t=>cases t with
   | cons z t=>cases h
   | nil =>
    rw [pfx2] at h
    cases hc:decide (0<=Kv x)&&(in16 (num6 y)&&((Kv x).tmod (F204 (num6 y))==0)) with
    | false=>rw [hc] at h; cases h
    | true =>
     rw [hc] at h
     simp only [Qc,Qa,Q3] at h
     simp only [Qo] at hc
     have h1:=Qb hc.1
     have h2:=Qb hc.2.1
     have h3:=Qqc x
     omega
theorem Ev (s:Za):F202 s=(pfxL s.data.toList).isSome:=by
 unfold F202
 rw [Qhs]
 cases h:pfxL s.data.toList with
 | none=>rfl
 | some p =>
  obtain ⟨a,n⟩:=p
  exact Qs (Qli h).1
theorem Qio (a n:Int) (h1:0<=n) (h2:n<=16):F207 (⟨a,n⟩:Ub)=F204 n:=by
 have h3:n=0\/n=1\/n=2\/n=3\/n=4\/n=5\/n=6\/n=7\/n=8\/n=9\/n=10\/n=11\/n=12\/n=13\/n=14\/n=15\/n=16:=by omega
 rcases h3 with rfl | rfl | rfl | rfl | rfl | rfl | rfl | rfl | rfl | rfl | rfl | rfl | rfl | rfl | rfl | rfl | rfl <;> exact Qb rfl
theorem dec16 (s:Za):in16 (decN s)=in16 (num6 s.data.toList)/\(in16 (decN s)=true->decN s=num6 s.data.toList):=by
 by_cases h:decN s<=999999
 ·rw [Qqa s h]; exact ⟨rfl,fun _=>rfl⟩
 ·have h1:in16 (decN s)=false:=Qk uu0
  have h2:num6 s.data.toList=-1:=by
   rcases Nh s with h3 | ⟨u,h3,h4⟩
   ·omega
   ·have hl:¬ s.data.toList.length<=6:=fun hle=>by
     have hl:s.data.toList.length=s.size:=Q8
     have:=Pv s uu0
     have:=Qxh s.data.toList
     omega
    unfold num6
    rw [Qk hl,Sa]; rfl
  rw [h1,h2]
  exact ⟨rfl,fun h=>by cases h⟩
theorem Ukt {l:List UInt8} {c:UInt8} (hc:Jb c=false) (h:c∈l):num6 l=-1:=by
 have hn:Wi l=false:=by
  cases hh:Wi l with
  | false=>rfl
  | true =>
   unfold Wi at hh
   simp only [Qo] at hh
   rw [Rc.1 hh.1.2 _ h] at hc
   cases hc
 unfold num6
 rw [hn,Sr]; rfl
theorem Uam {c:UInt8} {b:List UInt8} (hb:c∈b):∃ x y t,Uz c b=x :: y :: t:=by
 rcases Jv c b with ⟨_,h⟩ | ⟨x,y,hx,hx2,_⟩
 ·exact absurd hb h
 ·rw [hx,Ki y hx2]
  cases hs:Uz c y with
  | nil =>
   cases y with
   | nil=>cases hs
   | cons d y =>
    rw [Uz] at hs
    split at hs
    ·cases hs
    ·split at hs <;> cases hs
  | cons p t=>exact ⟨_,_,_,rfl⟩
theorem Uhb (a n:Int) (ha:-1<=a/\a<=65535):F199 (⟨a,n⟩:Ub)=(decide (0<=a)&&(in16 n&&(a.tmod (F204 n)==0))):=by
 unfold F199
 by_cases hn:0<=n/\n<=16
 ·have e:F207 (⟨a,n⟩:Ub)=F204 n:=Qio a n hn.1 hn.2
  have e16:in16 n=true:=Qs hn
  simp only [e,Qs hn,e16,Qc,Sc]
  by_cases h0:0<=a
  ·rw [Qs h0,Qs (show 0<=a/\a<=65535 by omega)]; rfl
  ·rw [Qk h0,Qk (show ¬ (0<=a/\a<=65535) by omega)]; rfl
 ·have e16:in16 n=false:=Qk hn
  simp only [Qk hn,e16,Qe,Sr,Sa]
theorem Nb (s:Za):F169 s=match pfxL s.data.toList with | some (a,n)=>(⟨a,n⟩,true) | none=>(⟨0,0⟩,false):=by
 have e209:∀ t:Za,F196 t=decN t:=fun _=>rfl
 have e87:∀ t u:Za,F34 t u=cut3 t u:=fun _ _=>rfl
 unfold F169 pfxL
 simp only [e209,e87,Qdd]
 rcases Md s 47 with ⟨h1,h2⟩ | ⟨a,b,h1,h2,h3⟩
 ·rw [h2,Yx h1]; rfl
 ·rw [h3,h1,Ki b h2]
  have ea:(⟨a.toArray⟩:Za)=mkB a:=rfl
  have eb:(⟨b.toArray⟩:Za)=mkB b:=rfl
  have d:=dec16 (mkB b)
  simp only [ea,eb,Qey,Uhb _ _ (Qqc a),Sv,Qe] at d ⊢
  by_cases hb:(47:UInt8)∈b
  ·have hn:num6 b=-1:=Ukt rfl hb
   have e2:in16 (decN (mkB b))=false:=by rw [d.1,hn]; rfl
   obtain ⟨x,y,t,e3⟩:=Uam hb
   rw [e2,e3,Sr,Sa]
   rfl
  ·rw [Yx hb,pfx2]
   cases h16:in16 (decN (mkB b)) with
   | false =>
    rw [<- d.1,h16]
    cases decide (0<=Kv a) <;> rfl
   | true =>
    have e4:=d.2 h16
    rw [<- d.1,h16,e4,Sc]
    cases decide (0<=Kv a)&&((Kv a).tmod (F204 (num6 b))==0) <;> rfl
theorem Qql (s:Za):(F169 s).2=F202 s:=by
 rw [Nb,Ev]
 cases pfxL s.data.toList with
 | none=>rfl
 | some p=>rfl
def Hw (word:Za):Int->Lp Int Bool:=fun i40 =>
 bif (decide (i40<(word.size:Int))) then (bif (bif (bif (((word.data.getD i40.toNat 0).toNat:Int) != 45) then (bif decide (((word.data.getD i40.toNat 0).toNat:Int)<97) then true else decide (((word.data.getD i40.toNat 0).toNat:Int)>122)) else false) then (bif decide (((word.data.getD i40.toNat 0).toNat:Int)<48) then true else decide (((word.data.getD i40.toNat 0).toNat:Int)>57)) else false) then (.ret false) else (.next (i40+1))) else (.done i40)
def F88 (word:Za):Bool :=
 (runL (Hw word) (((word.size:Int)-0).toNat+1) 0).fin (fun r=>r) (fun i40=>(decide (1<=(word.size:Int)/\(word.size:Int)<=8)))
abbrev Qhy (word:Za):Nat×Int:=((((word.size:Int)-0).toNat+1),0)
abbrev Qru (word:Za) (m39:Nat) (i40:Int):Prop:=Int.toNat ((word.size:Int)-i40)<m39/\(0:Int)<=i40
abbrev Uhm (word:Za):Lp Int Bool:=LpX (Hw word) (Qhy word)
abbrev Qgp (word:Za) (i:Nat×Int):Prop:=LpJ (Hw word) (Qhy word) i (Qru word i.1 i.2)
abbrev Ufa (word:Za) (i:Nat×Int) (m39:Nat) (i40:Int):Prop:=LpH (Hw word) (Qhy word) i m39 i40 (Qru word (m39+1) i40)
abbrev Uch (word:Za) (i40:Int) (i40_:Int) (K39:Prop):Prop:=(Rf (.string word))/\((.int .i64 i40:Value)=.int .i64 i40_)/\K39
theorem un88_0 (word:Za) (i:Nat×Int) (h:Qgp word i):Ufa word i (i.1-1) i.2:=⟨hd1 h.1 h.2.1,hd3 h.2.1,hd2 h.2.1,h.2.2⟩
theorem bk88_0 (word:Za) (i:Nat×Int) (m39:Nat) (i40:Int) (hl:m39<i.1) (e:runL (Hw word) m39 i40=Uhm word) (h:Qru word m39 i40):∃ j:Nat×Int,Uch word i40 j.2 (Qgp word j/\j.1<i.1):=⟨(m39,i40),rfl,rfl,⟨e,h⟩,hl⟩
theorem en88_0 (word:Za) (h:(0:Int)<=0):Uch word 0 0 (Qgp word (Qhy word)):=⟨rfl,rfl,rfl,Qn _,h⟩
def S88 (word:Za):Spec:=⟨[.r (.c (.v (.string word)))],.v (.bool (F88 word)),word.size<=1048576⟩
theorem ok88 (word:Za):(S88 word).ok Tryz.prog 88 :=
 Ue mixed (fn:=Tryz.f88) (ct:=.seq .no (.seq (.seq .no (.blk (.loop (ι:=Nat×Int) (fun i=>(fun (i40:Int)=>(⟨[(0,some (.v (.string word))),(3,some (.v (vI i40)))],[],0⟩:St)) i.2) (Qgp word) (fun i=>i.1) (Qhy word) (fun i=>(fun (i40:Int)=>(.seq (.seq .no (.cond .no .no)) (.seq (.blk (.seq .no (.seq .no (.cond (.seq .no .no) .no)))) (.reg [(1,.bnd)])))) i.2)))) (.seq (.reg [(2,Qzl (word.size:Int) 1 8)]) .no))) Tryz.func88 (fun (hpre0:word.size<=1048576)=>ai (en88_0 word uu0) (fun (i0:Nat×Int) (hi0:Qgp word i0)=>(fun (m0:Nat) (i40:Int) (hh0:Ufa word i0 m0 i40)=>have hI0:=hh0.1; have hl0:=hh0.2.1; have _:=hh0.2.2.1; have _:=hh0.2.2.2; ifd (i40<(word.size:Int)) (fun h2 _=>ai (uu0:0<=i40/\i40<(word.size:Int)) (ifb (bif (bif (((word.data.getD i40.toNat 0).toNat:Int) != 45) then (bif decide (((word.data.getD i40.toNat 0).toNat:Int)<97) then true else decide (((word.data.getD i40.toNat 0).toNat:Int)>122)) else false) then (bif decide (((word.data.getD i40.toNat 0).toNat:Int)<48) then true else decide (((word.data.getD i40.toNat 0).toNat:Int)>57)) else false) (fun h3=>have _:=bneT (Uc (Uc h3)); fiB false (F88 word) (finR (Um hI0 (condT h2 (condT h3 rfl))) rfl)) (fun h3=>ai (iok (i40+1) uu0) (bk88_0 word i0 m0 (i40+1) hl0 (Ud hI0 (condT h2 (condF h3 rfl))) uu5)))) (fun h2 _=>have hD0_4:Uhm word=Lp.done i40:=Uh hI0 (condF h2 rfl); Qis (word.size:Int) 1 8 (fiB (decide (1<=(word.size:Int)/\(word.size:Int)<=8)) (F88 word) (finD hD0_4 rfl)))) (i0.1-1) i0.2 (un88_0 word i0 hi0))) uu1
theorem kc66 (word:Za) {K_:Prop} (p0_:word.size<=1048576) (k_:K_):(word.size<=1048576)/\(Imp (.v (.string word)) (.v (.string word)))/\K_:=⟨p0_,Imp.refl _,k_⟩
abbrev kh66 (word:Za):Hint true Tryz.prog:=.call 66 (S66 word) (ok66 word) none
def F138 (word:Za):Bool :=
 (F66 word).2
def S138 (word:Za):Spec:=⟨[.r (.c (.v (.string word)))],.v (.bool (F138 word)),word.size<=1048576⟩
theorem ok138 (word:Za):(S138 word).ok Tryz.prog 138 :=
 Ue mixed (fn:=Tryz.f138) (ct:=.seq .no (.seq (.reg [(1,kh66 word)]) (.seq .no .no))) Tryz.func138 (fun (hpre0:word.size<=1048576)=>kc66 word uu0 (fiB (F66 word).2 (F138 word) rfl)) uu1
theorem Ube (text:Za) {K_:Prop} (p0_:text.size<=1048576) (k_:K_):(text.size<=1048576)/\(Imp (.v (.string text)) (.v (.string text)))/\K_:=⟨p0_,Imp.refl _,k_⟩
abbrev Udn (text:Za):Hint false Tryz.prog:=.call 169 (S169 text) (ok169 text) none
def F139 (word:Za):Bool :=
 (F169 word).2
def S139 (word:Za):Spec:=⟨[.r (.c (.v (.string word)))],.v (.bool (F139 word)),word.size<=1048576⟩
theorem ok139 (word:Za):(S139 word).ok Tryz.prog 139 false :=
 Ue mixed (fn:=Tryz.f139) (ct:=.seq .no (.seq (.reg [(1,Udn word)]) (.seq .no .no))) Tryz.func139 (fun (hpre0:word.size<=1048576)=>Ube word uu0 (fiB (F169 word).2 (F139 word) rfl)) uu1
def F141 (word:Za):Bool :=
 decide ((F165 word)>=0)
def S141 (word:Za):Spec:=⟨[.r (.c (.v (.string word)))],.v (.bool (F141 word)),word.size<=1048576⟩
theorem ok141 (word:Za):(S141 word).ok Tryz.prog 141 false :=
 Ue mixed (fn:=Tryz.f141) (ct:=.seq .no (.seq (.reg [(1,Qoo word)]) .no)) Tryz.func141 (fun (hpre0:word.size<=1048576)=>Qpz word uu0 (fiB (decide ((F165 word)>=0)) (F141 word) rfl)) uu1
def F170 (word:Za):Int :=
 bif (decide ((word.size:Int)>6)) then (-1) else (F196 word)
def S170 (word:Za):Spec:=⟨[.r (.c (.v (.string word)))],.v (vI (F170 word)),word.size<=1048576⟩
theorem ok170 (word:Za):(S170 word).ok Tryz.prog 170 false :=
 Ue mixed (fn:=Tryz.f170) (ct:=.seq .no (.seq (.seq .no (.cond (.seq .no .no) .no)) (.seq (.reg [(1,Qxu word)]) .no))) Tryz.func170 (fun (hpre0:word.size<=1048576)=>ifd ((word.size:Int)>6) (fun h1 _=>fiI (-1) (F170 word) (condT h1 rfl)) (fun h1 _=>Qzb word uu0 (fiI (F196 word) (F170 word) (condF h1 rfl)))) uu1
theorem Qbl (s:Za) (st:Int->Lp Int Bool) (p:UInt8->Bool) (y:Bool)
  (h1:∀ (i:Nat),i<s.size->∀ b,s.data.toList.getD i 0=b->st (i:Int)=bif p b then .next ((i+1:Nat):Int) else .ret false)
  (h2:st (s.size:Int)=.done (s.size:Int)):∀ (m i:Nat),i+m=s.size->∀ fuel,m<fuel->(runL st fuel (i:Int)).fin (fun r=>r) (fun _=>y)=bif (s.data.toList.drop i).all p then y else false
 | m,i,_,0,hf=>absurd hf (Sq _)
 | 0,i,h,fuel+1,hf=>by
  have hl:s.data.toList.length=s.size:=Q8
  obtain rfl:i=s.size:=by omega
  rw [Vb _ h2,Q7 uu0]
  rfl
 | m+1,i,h,fuel+1,hf=>by
  have hl:s.data.toList.length=s.size:=Q8
  have hb:s.data.toList.drop i=s.data.toList.getD i 0 :: s.data.toList.drop (i+1):=by
   rw [Rg uu0,Qd,Qh uu0]; rfl
  have hst:=h1 i uu0 _ rfl
  rw [hb,Rr]
  generalize s.data.toList.getD i 0=b at hst ⊢
  cases hd:p b with
  | false =>
   rw [hd,Qe] at hst
   rw [Wm _ hst]; rfl
  | true =>
   rw [hd,Qc] at hst
   rw [Kc _ hst,Qbl s st p y h1 h2 m (i+1) uu0 fuel uu0,Sc]
def Qdx (b:UInt8):Bool:=decide (b.toNat=45) || decide (97<=b.toNat/\b.toNat<=122) || decide (48<=b.toNat/\b.toNat<=57)
def Qzd (l:List UInt8):Bool:=decide (1<=l.length/\l.length<=8)&&l.all Qdx
theorem bne45 (b:UInt8):((b.toNat:Int) != 45)=!decide (b.toNat=45):=by
 cases h:decide (b.toNat=45) with
 | true =>
  have:=Qb h
  rw [this]; rfl
 | false =>
  have:=Qp h
  rw [Gh,Gw]; omega
theorem Qqd (b:UInt8) (lo hi:Nat):(bif decide ((b.toNat:Int)<(lo:Int)) then true else decide ((b.toNat:Int)>(hi:Int)))=!decide (lo<=b.toNat/\b.toNat<=hi):=by
 by_cases h1:(b.toNat:Int)<(lo:Int)
 ·rw [Qs h1,Qc,Qk uu0]; rfl
 ·rw [Qk h1,Qe]
  by_cases h2:(b.toNat:Int)>(hi:Int)
  ·rw [Qs h2,Qk uu0]; rfl
  ·rw [Qk h2,Qs uu0]; rfl
theorem Qwd (b:UInt8) (lo hi:Nat):decide ((lo:Int)<=(b.toNat:Int)/\(b.toNat:Int)<=(hi:Int))=decide (lo<=b.toNat/\b.toNat<=hi):=by
 congr 1
 exact propext ⟨fun h=>by omega,fun h=>by omega⟩
theorem Qpn (s:Za):F88 s=Qzd s.data.toList:=by
 have hl:s.data.toList.length=s.size:=Q8
 have h:=Qbl s (Hw s) Qdx (decide (1<=(s.size:Int)/\(s.size:Int)<=8)) (fun i hi b hb=>by
  have a1:=Qqd b 97 122
  have a2:=Qqd b 48 57
  have c1:((97:Nat):Int)=97:=rfl
  have c2:((122:Nat):Int)=122:=rfl
  have c3:((48:Nat):Int)=48:=rfl
  have c4:((57:Nat):Int)=57:=rfl
  rw [c1,c2] at a1
  rw [c3,c4] at a2
  simp only [Hw,Qs (show (i:Int)<(s.size:Int) by omega),Qc,Rk,Wq,hb,bne45,a1,a2,Qdx]
  cases decide (b.toNat=45) <;> cases decide (97<=b.toNat/\b.toNat<=122) <;> cases decide (48<=b.toNat/\b.toNat<=57) <;> rfl)
  (by simp only [Hw,Qk (show ¬ (s.size:Int)<(s.size:Int) by omega),Qe]) s.size 0 uu0 (Int.toNat ((s.size:Int)-0)+1) uu0
 unfold F88
 refine h.trans ?_
 rw [Rm,Qzd]
 have e:decide ((1:Int)<=(s.size:Int)/\(s.size:Int)<=8)=decide (1<=s.data.toList.length/\s.data.toList.length<=8):=by
  congr 1
  exact propext ⟨fun h=>by omega,fun h=>by omega⟩
 rw [e]
 cases s.data.toList.all Qdx <;> cases decide (1<=s.data.toList.length/\s.data.toList.length<=8) <;> rfl
theorem Qnz (s:Za):F28 s=Qzd s.data.toList:=by
 have hl:s.data.toList.length=s.size:=Q8
 have h:=Qbl s (Hz s) Qdx true (fun i hi b hb=>by
  have a1:=Qwd b 97 122
  have a2:=Qwd b 48 57
  have c1:((97:Nat):Int)=97:=rfl
  have c2:((122:Nat):Int)=122:=rfl
  have c3:((48:Nat):Int)=48:=rfl
  have c4:((57:Nat):Int)=57:=rfl
  rw [c1,c2] at a1
  rw [c3,c4] at a2
  simp only [Hz,Qs (show (i:Int)<(s.size:Int) by omega),Qc,Rk,Wq,hb,bne45,Qlp,a1,a2,Qdx]
  cases decide (b.toNat=45) <;> cases decide (97<=b.toNat/\b.toNat<=122) <;> cases decide (48<=b.toNat/\b.toNat<=57) <;> rfl)
  (by simp only [Hz,Qk (show ¬ (s.size:Int)<(s.size:Int) by omega),Qe]) s.size 0 uu0 (Int.toNat ((s.size:Int)-0)+1) uu0
 unfold F28
 rw [Rm] at h
 have e:decide ((1:Int)<=(s.size:Int)/\(s.size:Int)<=8)=decide (1<=s.data.toList.length/\s.data.toList.length<=8):=by
  congr 1
  exact propext ⟨fun h=>by omega,fun h=>by omega⟩
 rw [e,Qzd]
 cases decide (1<=s.data.toList.length/\s.data.toList.length<=8) with
 | false=>rfl
 | true =>
  refine h.trans ?_
  cases s.data.toList.all Qdx <;> rfl
theorem Wf (s:Za):F88 s=F28 s:=(Qpn s).trans (Qnz s).symm
def anyF (c:Nat->Bool):Nat->Nat->Bool
 | _,0=>false
 | i,m+1=>c i || anyF c (i+1) m
theorem Kg {ρ τ:Type} (st:Int->Lp Int ρ) (n:Nat) (c:Nat->Bool) (bad:ρ) (f:ρ->τ) (y:τ) (h1:∀ i,i<n->st (i:Int)=bif c i then .ret bad else .next ((i+1:Nat):Int)) (h2:st (n:Int)=.done (n:Int)) :
  ∀ (m i:Nat),i+m=n->∀ fuel,m<fuel->(runL st fuel (i:Int)).fin f (fun _=>y)=bif anyF c i m then f bad else y
 | m,i,_,0,hf=>absurd hf (Sq _)
 | 0,i,h,fuel+1,hf=>by
  obtain rfl:i=n:=by omega
  rw [Vb _ h2]; rfl
 | m+1,i,h,fuel+1,hf=>by
  have hst:=h1 i uu0
  rw [anyF]
  cases hd:c i with
  | true =>
   rw [hd,Qc] at hst
   rw [Wm _ hst]; rfl
  | false =>
   rw [hd,Qe] at hst
   rw [Kc _ hst,Kg st n c bad f y h1 h2 m (i+1) uu0 fuel uu0,Ga]
theorem Nc (ws:List Za) (x:Za):F26 ws x=ws.any fun e=>x.toList==e.toList:=by
 unfold F26
 rw [<- Qdm]
 congr 1
 exact Qt (·>=0) (Bu (fun e:Za=>x.toList==e.toList) ws (Qby ws x) (fun i=>rfl))
theorem Qja (ws:List Za) (p:Za->Bool):∀ (m i:Nat),i+m=ws.length->anyF (fun k=>p (ws.getD k default)) i m=(ws.drop i).any p
 | 0,i,h=>by rw [Q7 uu0]; rfl
 | m+1,i,h=>by
  rw [Rg uu0,Th,anyF,Qja ws p m (i+1) uu0,Qd,Qh uu0]
  rfl
theorem Qhp (ws:List Za) (x:Za):F31 ws x=ws.any fun e=>e.toList==x.toList:=by
 have h:=Kg (Le ws x) ws.length (fun k=>(ws.getD k default).toList==x.toList) true (fun r=>r) false (fun i hi=>by
  simp only [Le,Qs (show (i:Int)<(ws.length:Int) by omega),Qc,Rk]
  rfl) (by simp only [Le,Qk (show ¬ (ws.length:Int)<(ws.length:Int) by omega),Qe]) ws.length 0 uu0 (Int.toNat ((ws.length:Int)-0)+1) uu0
 unfold F31
 refine h.trans ?_
 rw [Qja ws (fun e=>e.toList==x.toList) ws.length 0 uu0,Rm]
 cases (ws.any fun e=>e.toList==x.toList) <;> rfl
theorem Uge (ws:List Za) (x:Za):F26 ws x=F31 ws x:=by
 rw [Nc,Qhp]
 congr 1
 funext e
 rw [Gu,Sy,Sy]
 exact eq_comm
def Lb (ws:List Za) (k:Nat):Bool:=bif (!(F31 F208 (ws.getD k default))) then true else (bif decide ((k:Int)>0) then (!(Op.bytesLess (ws.getD ((k:Int)-1).toNat default).toList (ws.getD k default).toList)) else false)
def Qdl (s:Za):Bool:=bif (bif (s.toList==Zm.toList) then true else (s.toList==Zq.toList)) then true else !anyF (Lb (Uv s ⟨#[44]⟩)) 0 (Uv s ⟨#[44]⟩).length
theorem Qii (s:Za):(F66 s).2=Qdl s:=by
 have e90:∀ t u:Za,F70 t u=Uv t u:=fun _ _=>rfl
 have h:=Kg (Li s) (Uv s ⟨#[44]⟩).length (Lb (Uv s ⟨#[44]⟩)) (([]:List Za),false) (fun r=>r) ((Uv s ⟨#[44]⟩),true) (fun i hi=>by
  have hh:=Uge F208 ((Uv s ⟨#[44]⟩).getD i default)
  unfold F208 at hh
  simp only [Li,e90,Qs (show (i:Int)<((Uv s ⟨#[44]⟩).length:Int) by omega),Qc,Rk,hh]
  rfl) (by simp only [Li,e90,Qk (show ¬ ((Uv s ⟨#[44]⟩).length:Int)<((Uv s ⟨#[44]⟩).length:Int) by omega),Qe]) (Uv s ⟨#[44]⟩).length 0 uu0 (Int.toNat (((Uv s ⟨#[44]⟩).length:Int)-0)+1) uu0
 unfold F66 Qdl
 cases (bif (s.toList==Zm.toList) then true else (s.toList==Zq.toList)) with
 | true=>rfl
 | false =>
  rw [Qe,Qe]
  refine (Qt (fun r:List Za×Bool=>r.2) h).trans ?_
  cases anyF (Lb (Uv s ⟨#[44]⟩)) 0 (Uv s ⟨#[44]⟩).length <;> rfl
theorem Qie (s:Za):F200 s=Qdl s:=by
 have hc:F32 s 44=Uv s ⟨#[44]⟩:=Qib s 44
 have h:=Kg (Bb s) (Uv s ⟨#[44]⟩).length (Lb (Uv s ⟨#[44]⟩)) false (fun r=>r) true (fun i hi=>by
  simp only [Bb,hc,Qs (show (i:Int)<((Uv s ⟨#[44]⟩).length:Int) by omega),Qc,Rk]
  rfl) (by simp only [Bb,hc,Qk (show ¬ ((Uv s ⟨#[44]⟩).length:Int)<((Uv s ⟨#[44]⟩).length:Int) by omega),Qe]) (Uv s ⟨#[44]⟩).length 0 uu0 (Int.toNat (((Uv s ⟨#[44]⟩).length:Int)-0)+1) uu0
 unfold F200 Qdl
 rw [hc]
 cases (bif (s.toList==Zm.toList) then true else (s.toList==Zq.toList)) with
 | true=>rfl
 | false =>
  rw [Qe,Qe]
  refine h.trans ?_
  cases anyF (Lb (Uv s ⟨#[44]⟩)) 0 (Uv s ⟨#[44]⟩).length <;> rfl
theorem Qor (s:Za):(F66 s).2=F200 s:=(Qii s).trans (Qie s).symm
theorem Uac (s:Za):F170 s=num6 s.data.toList:=by
 have hl:s.data.toList.length=s.size:=Q8
 have e209:F196 s=decN s:=rfl
 unfold F170
 by_cases h:s.size<=6
 ·rw [Qk (show ¬ (s.size:Int)>6 by omega),Qe,e209,Pv s h]
 ·rw [Qs (show (s.size:Int)>6 by omega),Qc]
  unfold num6
  rw [Qk (show ¬ s.data.toList.length<=6 by omega),Sa]; rfl
theorem Qcx (s:Za):F170 s=F194 s:=(Uac s).trans (Mt s).symm
theorem Kn (s:Za):F141 s=decide (F191 s>=0):=by
 unfold F141
 rw [Qbh]
theorem Zv (s:Za):F139 s=F202 s:=Qql s
theorem Yy (s:Za):F138 s=F200 s:=Qor s
theorem Qgs (list:List Za) (sep:Za):∀ (m i:Nat) (out:Za),i+m=list.length->1<=i->∀ fuel,m<fuel ->
  ((runL (Wk list sep) fuel (out,(i:Int))).fin (fun r=>r) (fun (out,i40)=>out)).data.toList=out.data.toList++Lib.joinTail sep.data.toList ((list.drop i).map (·.data.toList))
 | m,i,out,_,_,0,hf=>absurd hf (Sq _)
 | 0,i,out,h,h1,fuel+1,hf=>by
  have hst:Wk list sep (out,(i:Int))=.done (out,(i:Int)):=by
   simp only [Wk,Qk (show ¬ (i:Int)<(list.length:Int) by omega),Qe]
  rw [Vb _ hst,Q7 uu0]
  simp [Lib.joinTail,Lp.fin]
 | m+1,i,out,h,h1,fuel+1,hf=>by
  have hst:Wk list sep (out,(i:Int))=.next ((out++sep)++list.getD i default,((i+1:Nat):Int)):=by
   simp only [Wk,Qs (show (i:Int)<(list.length:Int) by omega),Qs (show (i:Int)>0 by omega),Qc,Rk]
   rfl
  rw [Kc _ hst,Qgs list sep m (i+1) _ uu0 uu0 fuel uu0]
  rw [Rg (show i<list.length by omega),Rb,Qd,Qh (show i<list.length by omega)]
  simp [Lib.joinTail,Gb,Gt,Q1]
theorem Qct (list:List Za) (sep:Za):F174 list sep=Ku list sep:=by
 refine Bw ?_
 show _=Lib.join (list.map (·.data.toList)) sep.data.toList
 unfold F174
 cases list with
 | nil=>rfl
 | cons a t =>
  have hst:Wk (a :: t) sep (Zi,0)=.next (Zi++a,((1:Nat):Int)):=by
   simp only [Wk,Qs (show (0:Int)<((a :: t).length:Int) by simp only [Q4]; omega),Qk (show ¬ (0:Int)>0 by omega),Qc,Qe]
   rfl
  rw [Kc _ hst,Qgs (a :: t) sep t.length 1 _ uu32 uu0 _ uu32]
  rw [Gb,Gt,List.drop_succ_cons,Rm]
  exact (Lib.join_cons _ _ _).symm
theorem Ufu (word:Za) {K_:Prop} (p0_:word.size<=1048576) (k_:K_):(word.size<=1048576)/\(Imp (.v (.string word)) (.v (.string word)))/\K_:=⟨p0_,Imp.refl _,k_⟩
abbrev Qxa (word:Za):Hint false Tryz.prog:=.call 170 (S170 word) (ok170 word) none
def F181 (word:Za) (p1:Int) (p2:Int):Bool :=
 (decide (p1<=(F170 word)/\(F170 word)<=p2))
def S181 (word:Za) (p1:Int) (p2:Int):Spec:=⟨[.r (.c (.v (.string word))),.rp ([.v (vI p1)]),.rp ([.v (vI p2)])],.v (.bool (F181 word p1 p2)),word.size<=1048576⟩
theorem ok181 (word:Za) (p1:Int) (p2:Int):(S181 word p1 p2).ok Tryz.prog 181 false :=
 Ue mixed (fn:=Tryz.f181) (ct:=.seq .no (.seq (.reg [(1,Qxa word),(4,Vc (F170 word) p1 p2)]) .no)) Tryz.func181 (fun (hpre0:word.size<=1048576)=>Ufu word uu0 (Qis (F170 word) p1 p2 (fiB (decide (p1<=(F170 word)/\(F170 word)<=p2)) (F181 word p1 p2) rfl))) uu1
def F137 (low:Int) (high:Int):Unit :=
 ()
def S137 (low:Int) (high:Int):Spec:=⟨[.r (.c (.v (vI low))),.r (.c (.v (vI high)))],.cl 181 [.pt 3 [.v (vI low)],.pt 3 [.v (vI high)]],True⟩
theorem ok137 (low:Int) (high:Int):(S137 low high).ok Tryz.prog 137 :=
 Ue mixed (fn:=Tryz.f137) (ct:=.seq .no (.seq .no .no)) Tryz.func137 (fun (_:True)=>(fun hF:(():Unit)=(F137 low high)=>ai (Imps.refl [.v (vI low)]) (ai (Imps.refl [.v (vI high)]) trivial)) rfl) uu1
def F182 (word:Za) (p1:List Za):Bool :=
 (F26 p1 word)
def S182 (word:Za) (p1:List Za):Spec:=⟨[.r (.c (.v (.string word))),.rp ([.l 1 eStr p1])],.v (.bool (F182 word p1)),word.size<=1048576⟩
theorem ok182 (word:Za) (p1:List Za):(S182 word p1).ok Tryz.prog 182 :=
 Ue mixed (fn:=Tryz.f182) (ct:=.seq .no (.seq (.reg [(2,kh26 p1 word)]) .no)) Tryz.func182 (fun (hpre0:word.size<=1048576)=>kc26 p1 word (fiB (F26 p1 word) (F182 word p1) rfl)) uu1
def F140 (words:List Za):Unit :=
 ()
def S140 (words:List Za):Spec:=⟨[.ow (.l 1 eStr words) none],.cl 182 [.pt 22 [.l 1 eStr words]],True⟩
theorem ok140 (words:List Za):(S140 words).ok Tryz.prog 140 :=
 Ue mixed (fn:=Tryz.f140) (ct:=.seq .no (.seq .no .no)) Tryz.func140 (fun (_:True)=>(fun hF:(():Unit)=(F140 words)=>ai (Imps.refl [.l 1 eStr words]) trivial) rfl) uu1
structure Uq where
 word:Za
 key:Int
 checks:SV
 deriving Inhabited
def Yb (x:Uq):List Dat:=[.v (.string x.word),.v (vI x.key),.v (sv x.checks)]
def F143 (f:Uq) (p1:Za):Bool :=
 (!(f.word.toList==p1.toList))
def S143 (f:Uq) (p1:Za):Spec:=⟨[.r (.g (Yb f)),.rp ([.v (.string p1)])],.v (.bool (F143 f p1)),True⟩
theorem ok143 (f:Uq) (p1:Za):(S143 f p1).ok Tryz.prog 143 :=
 Ue mixed (fn:=Tryz.f143) (ct:=.seq .no (.seq .no .no)) Tryz.func143 (fun (_:True)=>(fun hF:((!(f.word.toList==p1.toList)):Bool)=(F143 f p1)=>ai (Qt (fun r:Bool=>(.bool r:Value)) hF) trivial) rfl) uu1
def Kj (Q:Uq->Prop) (p:Uq->Bool):Zx:=⟨Uq,fun i=>[.g (pxH (Yb i) (Q i))],fun i=>.bool (p i)⟩
def Ko (s:List Uq) (f:Uq->Bool):Int->Lp Int Int:=fun v8 =>
 bif (decide (v8<(s.length:Int))) then (bif (f (s.getD v8.toNat default)) then (.ret v8) else (.next (v8+1))) else (.done v8)
def F183 (s:List Uq) (f:Uq->Bool):Int :=
 (runL (Ko s f) (((s.length:Int)-0).toNat+1) 0).fin (fun r=>r) (fun v8=>(-1))
def S183 (R:Int) (s:List Uq) (f:Uq->Bool) (Qf:Uq->Prop):Spec:=⟨[.r (.c (.l 3 Yb s)),.fn (Kj Qf f)],.v (vI R),(∀ k:Nat,k<s.length->Qf (s.getD k default))⟩
theorem ok183 (s:List Uq) (f:Uq->Bool) (Qf:Uq->Prop):(S183 (F183 s f) s f Qf).ok Tryz.prog 183 false :=
 Ue mixed (fn:=Tryz.f183) (ct:=.seqk [(0,0)] .no (.seq (.seqk [(0,0)] .no (.blk (.loop (ι:=Nat×Int) (fun i=>(fun (v8:Int)=>(⟨[(0,some (.h 0 0)),(1,some (.h 1 0)),(7,some (.v (vI (s.length:Int)))),(8,some (.v (vI v8)))],[(0,some (.shr none (.l 3 Yb s))),(1,some (.fn (Kj Qf f)))],2⟩:St)) i.2) (fun i=>runL (Ko s f) i.1 i.2=(runL (Ko s f) (((s.length:Int)-0).toNat+1) 0)/\(fun (v8:Int)=>(Int.toNat ((s.length:Int)-v8)<i.1/\(0:Int)<=v8)) i.2) (fun i=>i.1) ((((s.length:Int)-0).toNat+1),0) (fun i=>(fun (v8:Int)=>(.seq .no (.seq (.cond .no .no) (.seq (.blk (.seq .no (.seq (.reg [(5,.fnv (Kj Qf f) (s.getD v8.toNat default))]) (.cond (.seq .no .no) .no)))) (.reg [(0,.bnd)]))))) i.2)))) (.seq .no .no))) Tryz.func183 (fun (hpre0:∀ k:Nat,k<s.length->Qf (s.getD k default))=>kn s fun _=>kn s fun _=>ai (ai rfl (ai rfl (ai ir (ai rfl (ai (rfl:runL (Ko s f) (((s.length:Int)-0).toNat+1) 0=(runL (Ko s f) (((s.length:Int)-0).toNat+1) 0)) (ai (Qn _:Int.toNat ((s.length:Int)-0)<(((s.length:Int)-0).toNat+1)) (uu0:(0:Int)<=0)))))):((.int .i64 (s.length:Int):Value)=.int .i64 (s.length:Int))/\((.int .i64 0:Value)=.int .i64 0)/\(Imp (.l 3 Yb s) (.l 3 Yb s))/\(Kj Qf f=Kj Qf f)/\(runL (Ko s f) (((s.length:Int)-0).toNat+1) 0=(runL (Ko s f) (((s.length:Int)-0).toNat+1) 0)/\Int.toNat ((s.length:Int)-0)<(((s.length:Int)-0).toNat+1)/\(0:Int)<=0)) (fun (i0:Nat×Int) (hi0:runL (Ko s f) i0.1 i0.2=(runL (Ko s f) (((s.length:Int)-0).toNat+1) 0)/\(fun (v8:Int)=>(Int.toNat ((s.length:Int)-v8)<i0.1/\(0:Int)<=v8)) i0.2)=>(fun (m0:Nat) (v8:Int) (hI0:runL (Ko s f) (m0+1) v8=(runL (Ko s f) (((s.length:Int)-0).toNat+1) 0)) (_:Int.toNat ((s.length:Int)-v8)<m0+1) (hl0:m0<i0.1) (_:(0:Int)<=v8)=>ifd (v8<(s.length:Int)) (fun h2 _=>ai (uu0:ib v8 s) (ai (Eq.refl (Kj Qf f)) (ai (Imps.pxH (ds:=Yb (s.getD v8.toNat default)) (hpre0 v8.toNat uu0)) (ifb (f (s.getD v8.toNat default)) (fun h3=>(fun hF:(v8:Int)=(F183 s f)=>ai (Qt (fun r:Int=>(.int .i64 r:Value)) hF) trivial) (finR (Um hI0 (condT h2 (condT h3 rfl))) rfl)) (fun h3=>ai (iok (v8+1) uu0) (Exists.intro (p:=fun j:Nat×Int=>(fun (v8_:Int)=>(((.int .i64 (s.length:Int):Value)=.int .i64 (s.length:Int))/\((.int .i64 (v8+1):Value)=.int .i64 v8_)/\(Imp (.l 3 Yb s) (.l 3 Yb s))/\(Kj Qf f=Kj Qf f)/\((runL (Ko s f) j.1 j.2=(runL (Ko s f) (((s.length:Int)-0).toNat+1) 0)/\Int.toNat ((s.length:Int)-v8_)<j.1/\(0:Int)<=v8_)/\j.1<i0.1))) j.2) (m0,(v8+1)) (ai rfl (ai rfl (ai ir (ai rfl (ai (ai (Ud hI0 (condT h2 (condF h3 rfl))) (ai (uu0:Int.toNat ((s.length:Int)-(v8+1))<m0) (uu0:(0:Int)<=(v8+1)))) hl0))))))))))) (fun h2 _=>(fun hD0_4:(runL (Ko s f) (((s.length:Int)-0).toNat+1) 0)=Lp.done v8=>(fun hF:((-1):Int)=(F183 s f)=>ai (Qt (fun r:Int=>(.int .i64 r:Value)) hF) trivial) (finD hD0_4 rfl)) (Uh hI0 (condF h2 rfl)))) (i0.1-1) i0.2 (hd1 hi0.1 hi0.2.1) (hd2 hi0.2.1) (hd3 hi0.2.1) hi0.2.2)) uu1
theorem as183 (s:List Uq) (f:Uq->Bool):F183 s f=(idxI f s):=by
 exact Bu f s (Ko s f) (fun i=>rfl)
theorem oa183 (s:List Uq) (f:Uq->Bool) (Qf:Uq->Prop):(S183 (idxI f s) s f Qf).ok Tryz.prog 183 false:=by
 intro hp; have h:=ok183 s f Qf hp; rw [as183 s f] at h; exact h
theorem g183_0 (s:List Uq) (f:Uq->Bool):(idxI f s)<(s.length:Int):=by
 exact Qai f s
theorem g183_1 (s:List Uq) (f:Uq->Bool):-1<=(idxI f s):=by
 (show -1<=idxI f s; unfold idxI; cases first (fun k=>f (s.getD k default)) s.length <;> simp only [oix] <;> omega)
def Kh (s:List Uq) (del:Uq->Bool):(Int×Int×List Uq)->Lp (Int×Int×List Uq) (List Uq):=fun (i41,j1,xs) =>
 bif (decide (j1<(xs.length:Int))) then (bif (!(del (xs.getD j1.toNat default))) then (.next ((i41+1),(j1+1),(xs.set (i41).toNat (xs.getD j1.toNat default)))) else (.next (i41,(j1+1),xs))) else (.done (i41,j1,xs))
def Qaf (s:List Uq) (del:Uq->Bool):Lp (List Uq×Int) (List Uq) :=
 (runL (Kh s del) (((s.length:Int)-((idxI del s)+1)).toNat+1) ((idxI del s),((idxI del s)+1),s)).fin Lp.ret (fun (i41,j1,xs)=>.done (xs,i41))
def F142 (s:List Uq) (del:Uq->Bool):List Uq :=
 bif ((idxI del s)==(-1)) then s else ((Qaf s del).fin (fun r=>r) (fun (s1,i40)=>((s1.take i40.toNat++List.replicate (s1.drop i40.toNat).length ((⟨Zi,0,(⟨none,0,0⟩:SV)⟩:Uq):Uq)++s1.drop (i40.toNat+(s1.drop i40.toNat).length)).take i40.toNat)))
def S142 (R:List Uq) (s:List Uq) (del:Uq->Bool) (Qdel:Uq->Prop):Spec:=⟨[.ow (.l 3 Yb s) none,.fn (Kj Qdel del)],.ow (.l 3 Yb R),s.length<=1000000000/\(∀ k:Nat,k<s.length->Qdel (s.getD k default))⟩
abbrev Hf (xs:List Uq) (i41:Int) (j1:Int):=(xs.set (i41).toNat (xs.getD j1.toNat default))
theorem ok142 (s:List Uq) (del:Uq->Bool) (Qdel:Uq->Prop):(S142 (F142 s del) s del Qdel).ok Tryz.prog 142 false :=
 Ue mixed (fn:=Tryz.f142) (ct:=.seqk [(0,0)] .no (.seq (.reg [(2,.call 183 (S183 (idxI del s) s del Qdel) (oa183 s del Qdel) none)]) (.seq (.seq .no (.cond (.seq .no .no) .no)) (.cut (ι:=List Uq×Int) (fun j=>(fun (s1:List Uq) (i40:Int)=>(⟨[(0,some (.h 0 0)),(5,some (.v (vI i40)))],[(0,some (.own 0 (.l 3 Yb s1)))],1⟩:St)) j.1 j.2) (fun j=>(fun (s1:List Uq) (i40:Int)=>((Qaf s del)=Lp.done j/\(0<=i40/\i40<=(s1.length:Int)))) j.1 j.2) (.seqk [(0,0)] (.reg [(1,.bnd)]) (.blk (.loop (ι:=Nat×(Int×Int×List Uq)) (fun i=>(fun (i41:Int) (j1:Int) (xs:List Uq)=>(⟨[(0,some (.h 0 0)),(1,some (.h 1 0)),(5,some (.v (vI i41))),(6,some (.v (vI j1)))],[(0,some (.own 0 (.l 3 Yb xs))),(1,some (.fn (Kj Qdel del)))],2⟩:St)) i.2.1 i.2.2.1 i.2.2.2) (fun i=>runL (Kh s del) i.1 i.2=(runL (Kh s del) (((s.length:Int)-((idxI del s)+1)).toNat+1) ((idxI del s),((idxI del s)+1),s))/\(fun (i41:Int) (j1:Int) (xs:List Uq)=>(Int.toNat ((xs.length:Int)-j1)<i.1/\(0<=i41/\i41<j1)/\j1<=(xs.length:Int)/\xs.length<=1000000000/\(∀ k:Nat,j1<=(k:Int)->k<xs.length->Qdel (xs.getD k default))/\xs.length=s.length)) i.2.1 i.2.2.1 i.2.2.2) (fun i=>i.1) ((((s.length:Int)-((idxI del s)+1)).toNat+1),((idxI del s),((idxI del s)+1),s)) (fun i=>(fun (i41:Int) (j1:Int) (xs:List Uq)=>(.seq (.seq .no (.cond .no .no)) (.seq (.blk (.seq .no (.seq (.reg [(2,.fnv (Kj Qdel del) (xs.getD j1.toNat default))]) (.cond (.seq (.reg [(4,.dat (.l 3 Yb (Hf xs i41 j1)))]) (.reg [(1,.bnd)])) .no)))) (.reg [(1,.bnd)])))) i.2.1 i.2.2.1 i.2.2.2)))) (fun j=>(fun (s1:List Uq) (i40:Int)=>(.seq (.reg [(2,.part),(3,.dat (.l 3 Yb (s1.take i40.toNat++List.replicate (s1.drop i40.toNat).length ((⟨Zi,0,(⟨none,0,0⟩:SV)⟩:Uq):Uq)++s1.drop (i40.toNat+(s1.drop i40.toNat).length))))]) (.seq (.reg [(2,.own)]) .no))) j.1 j.2))))) Tryz.func142 (fun (hp:s.length<=1000000000/\(∀ k:Nat,k<s.length->Qdel (s.getD k default)))=>have hpre0:=hp.1; have hpre1:=hp.2; kn s fun _=>ai (uu6:∀ k:Nat,k<s.length->Qdel (s.getD k default)) (ai (Imp.refl (.l 3 Yb s)) (ai (Eq.refl (Kj Qdel del)) (have gv1:(idxI del s)<(s.length:Int):=g183_0 s del; have gv2:-1<=(idxI del s):=g183_1 s del; ife (idxI del s) (-1) (fun h3 _=>(fun hF:(s:List Uq)=(F142 s del)=>ai (Imp.of_eq (Qt (fun r:List Uq=>Dat.l 3 Yb r) hF)) trivial) (condT h3 rfl)) (fun h3 _=>ai (ai (iok ((idxI del s)+1) uu0) (kn s fun _=>ai (ai rfl (ai rfl (ai ir (ai rfl (ai (rfl:runL (Kh s del) (((s.length:Int)-((idxI del s)+1)).toNat+1) ((idxI del s),((idxI del s)+1),s)=(runL (Kh s del) (((s.length:Int)-((idxI del s)+1)).toNat+1) ((idxI del s),((idxI del s)+1),s))) (ai (Qn _:Int.toNat ((s.length:Int)-((idxI del s)+1))<(((s.length:Int)-((idxI del s)+1)).toNat+1)) (ai (uu0:0<=(idxI del s)/\(idxI del s)<((idxI del s)+1)) (ai (uu0:((idxI del s)+1)<=(s.length:Int)) (ai (uu0:s.length<=1000000000) (ai (by (intro k hk hk2; exact (by assumption:∀ k:Nat,k<s.length->Qdel (s.getD k default)) k hk2):∀ k:Nat,((idxI del s)+1)<=(k:Int)->k<s.length->Qdel (s.getD k default)) (uu0:s.length=s.length)))))))))):((.int .i64 (idxI del s):Value)=.int .i64 (idxI del s))/\((.int .i64 ((idxI del s)+1):Value)=.int .i64 ((idxI del s)+1))/\(Imp (.l 3 Yb s) (.l 3 Yb s))/\(Kj Qdel del=Kj Qdel del)/\(runL (Kh s del) (((s.length:Int)-((idxI del s)+1)).toNat+1) ((idxI del s),((idxI del s)+1),s)=(runL (Kh s del) (((s.length:Int)-((idxI del s)+1)).toNat+1) ((idxI del s),((idxI del s)+1),s))/\Int.toNat ((s.length:Int)-((idxI del s)+1))<(((s.length:Int)-((idxI del s)+1)).toNat+1)/\(0<=(idxI del s)/\(idxI del s)<((idxI del s)+1))/\((idxI del s)+1)<=(s.length:Int)/\s.length<=1000000000/\(∀ k:Nat,((idxI del s)+1)<=(k:Int)->k<s.length->Qdel (s.getD k default))/\s.length=s.length)) (fun (i0:Nat×(Int×Int×List Uq)) (hi0:runL (Kh s del) i0.1 i0.2=(runL (Kh s del) (((s.length:Int)-((idxI del s)+1)).toNat+1) ((idxI del s),((idxI del s)+1),s))/\(fun (i41:Int) (j1:Int) (xs:List Uq)=>(Int.toNat ((xs.length:Int)-j1)<i0.1/\(0<=i41/\i41<j1)/\j1<=(xs.length:Int)/\xs.length<=1000000000/\(∀ k:Nat,j1<=(k:Int)->k<xs.length->Qdel (xs.getD k default))/\xs.length=s.length)) i0.2.1 i0.2.2.1 i0.2.2.2)=>(fun (m0:Nat) (i41:Int) (j1:Int) (xs:List Uq) (hI0:runL (Kh s del) (m0+1) (i41,j1,xs)=(runL (Kh s del) (((s.length:Int)-((idxI del s)+1)).toNat+1) ((idxI del s),((idxI del s)+1),s))) (_:Int.toNat ((xs.length:Int)-j1)<m0+1) (hl0:m0<i0.1) (_:0<=i41/\i41<j1) (_:j1<=(xs.length:Int)) (_:xs.length<=1000000000) (_:∀ k:Nat,j1<=(k:Int)->k<xs.length->Qdel (xs.getD k default)) (_:xs.length=s.length)=>ifd (j1<(xs.length:Int)) (fun h5 _=>ai (uu0:ib j1 xs) (ai (Eq.refl (Kj Qdel del)) (ai (Imps.pxH (ds:=Yb (xs.getD j1.toNat default)) ((uu6:∀ k:Nat,j1<=(k:Int)->k<xs.length->Qdel (xs.getD k default)) j1.toNat uu0 uu0)) (ifb (!(del (xs.getD j1.toNat default))) (fun h6=>have _:=(Yq h6); ai (uu0:ib i41 xs) (ai (setr 3 Yb xs (i41).toNat (xs.getD j1.toNat default)) (ai (iok (i41+1) uu0) (ai (iok (j1+1) uu0) (Exists.intro (p:=fun j:Nat×(Int×Int×List Uq)=>(fun (i41_:Int) (j1_:Int) (xs_:List Uq)=>(((.int .i64 (i41+1):Value)=.int .i64 i41_)/\((.int .i64 (j1+1):Value)=.int .i64 j1_)/\(Imp (.l 3 Yb (Hf xs i41 j1)) (.l 3 Yb xs_))/\(Kj Qdel del=Kj Qdel del)/\((runL (Kh s del) j.1 j.2=(runL (Kh s del) (((s.length:Int)-((idxI del s)+1)).toNat+1) ((idxI del s),((idxI del s)+1),s))/\Int.toNat ((xs_.length:Int)-j1_)<j.1/\(0<=i41_/\i41_<j1_)/\j1_<=(xs_.length:Int)/\xs_.length<=1000000000/\(∀ k:Nat,j1_<=(k:Int)->k<xs_.length->Qdel (xs_.getD k default))/\xs_.length=s.length)/\j.1<i0.1))) j.2.1 j.2.2.1 j.2.2.2) (m0,((i41+1),(j1+1),(Hf xs i41 j1))) (ai rfl (ai rfl (ai ir (ai rfl (ai (ai (Ud hI0 (condT h5 (condT h6 rfl))) (ai (uu33:Int.toNat (((Hf xs i41 j1).length:Int)-(j1+1))<m0) (ai (uu0:0<=(i41+1)/\(i41+1)<(j1+1)) (ai (uu33:(j1+1)<=((Hf xs i41 j1).length:Int)) (ai (uu33:(Hf xs i41 j1).length<=1000000000) (ai (by (intro k hk hk2; (rw [Wa _ _ _ _ (by omega)]; exact (by assumption:∀ k:Nat,j1<=(k:Int)->k<xs.length->Qdel (xs.getD k default)) k (by omega) (by simpa using hk2))):∀ k:Nat,(j1+1)<=(k:Int)->k<(Hf xs i41 j1).length->Qdel ((Hf xs i41 j1).getD k default)) (uu33:(Hf xs i41 j1).length=s.length))))))) hl0)))))))))) (fun h6=>have _:=(Uw h6); ai (iok (j1+1) uu0) (Exists.intro (p:=fun j:Nat×(Int×Int×List Uq)=>(fun (i41_:Int) (j1_:Int) (xs_:List Uq)=>(((.int .i64 i41:Value)=.int .i64 i41_)/\((.int .i64 (j1+1):Value)=.int .i64 j1_)/\(Imp (.l 3 Yb xs) (.l 3 Yb xs_))/\(Kj Qdel del=Kj Qdel del)/\((runL (Kh s del) j.1 j.2=(runL (Kh s del) (((s.length:Int)-((idxI del s)+1)).toNat+1) ((idxI del s),((idxI del s)+1),s))/\Int.toNat ((xs_.length:Int)-j1_)<j.1/\(0<=i41_/\i41_<j1_)/\j1_<=(xs_.length:Int)/\xs_.length<=1000000000/\(∀ k:Nat,j1_<=(k:Int)->k<xs_.length->Qdel (xs_.getD k default))/\xs_.length=s.length)/\j.1<i0.1))) j.2.1 j.2.2.1 j.2.2.2) (m0,(i41,(j1+1),xs)) (ai rfl (ai rfl (ai ir (ai rfl (ai (ai (Ud hI0 (condT h5 (condF h6 rfl))) (ai (uu0:Int.toNat ((xs.length:Int)-(j1+1))<m0) (ai (uu0:0<=i41/\i41<(j1+1)) (ai (uu0:(j1+1)<=(xs.length:Int)) (ai (uu0:xs.length<=1000000000) (ai (by (intro k hk hk2; exact (by assumption:∀ k:Nat,j1<=(k:Int)->k<xs.length->Qdel (xs.getD k default)) k (by omega) hk2):∀ k:Nat,(j1+1)<=(k:Int)->k<xs.length->Qdel (xs.getD k default)) (uu0:xs.length=s.length))))))) hl0))))))))))) (fun h5 _=>(fun hD0_7:(runL (Kh s del) (((s.length:Int)-((idxI del s)+1)).toNat+1) ((idxI del s),((idxI del s)+1),s))=Lp.done (i41,j1,xs)=>Exists.intro (p:=fun j:List Uq×Int=>(fun (s1_:List Uq) (i40_:Int)=>(((.int .i64 i41:Value)=.int .i64 i40_)/\(Imp (.l 3 Yb xs) (.l 3 Yb s1_))/\(Qaf s del)=Lp.done j/\(0<=i40_/\i40_<=(s1_.length:Int)))) j.1 j.2) (xs,i41) (ai rfl (ai ir (ai (G6 (finD hD0_7 rfl)) (uu0:0<=i41/\i41<=(xs.length:Int)))))) (Uh hI0 (condF h5 rfl)))) (i0.1-1) i0.2.1 i0.2.2.1 i0.2.2.2 (hd1 hi0.1 hi0.2.1) (hd2 hi0.2.1) (hd3 hi0.2.1) hi0.2.2.1 hi0.2.2.2.1 hi0.2.2.2.2.1 hi0.2.2.2.2.2.1 hi0.2.2.2.2.2.2))) (fun (j:List Uq×Int) (hj:(fun (s1:List Uq) (i40:Int)=>((Qaf s del)=Lp.done j/\(0<=i40/\i40<=(s1.length:Int)))) j.1 j.2)=>(fun (s1:List Uq) (i40:Int) (hJ0_8:(Qaf s del)=Lp.done (s1,i40)) (_:0<=i40/\i40<=(s1.length:Int))=>ai (uu0:0<=i40/\i40<=(s1.length:Int)/\(s1.length:Int)<=(s1.length:Int)) (ai (ClearOK.mk Yb s1 ((⟨Zi,0,(⟨none,0,0⟩:SV)⟩:Uq):Uq) rfl (fun y e he=>by simp only [Yb,Qu,Rv,G4] at he; rcases he with rfl | rfl | rfl <;> exact ⟨_,rfl⟩):ClearOK (.l 3 Yb s1) i40.toNat (s1.drop i40.toNat).length 3 [.string Zi,.int .i64 0,.slice none 0 0] (.l 3 Yb (s1.take i40.toNat++List.replicate (s1.drop i40.toNat).length ((⟨Zi,0,(⟨none,0,0⟩:SV)⟩:Uq):Uq)++s1.drop (i40.toNat+(s1.drop i40.toNat).length)))) (ai (uu33:0<=(0:Int)/\(0:Int)<=i40/\i40<=((s1.take i40.toNat++List.replicate (s1.drop i40.toNat).length ((⟨Zi,0,(⟨none,0,0⟩:SV)⟩:Uq):Uq)++s1.drop (i40.toNat+(s1.drop i40.toNat).length)).length:Int)) ((fun hF:(((s1.take i40.toNat++List.replicate (s1.drop i40.toNat).length ((⟨Zi,0,(⟨none,0,0⟩:SV)⟩:Uq):Uq)++s1.drop (i40.toNat+(s1.drop i40.toNat).length)).take i40.toNat):List Uq)=(F142 s del)=>ai (Imp.of_eq (Qt (fun r:List Uq=>Dat.l 3 Yb r) hF)) trivial) (condF h3 (finD hJ0_8 rfl)))))) j.1 j.2 hj.1 hj.2)))))) uu1
theorem as142 (s:List Uq) (del:Uq->Bool):F142 s del=(s.filter (fun x=>!(del x))):=by
 exact Qpp del s _ (Kh s del) (fun i j xs=>rfl)
theorem oa142 (s:List Uq) (del:Uq->Bool) (Qdel:Uq->Prop):(S142 (s.filter (fun x=>!(del x))) s del Qdel).ok Tryz.prog 142 false:=by
 intro hp; have h:=ok142 s del Qdel hp; rw [as142 s del] at h; exact h
def Je (p:Za->Bool):Zx:=⟨Za,fun i=>[.c (.x (BX i 1048576))],fun i=>.bool (p i)⟩
def Hg (p:Za->Bool):List Dat:=[.x (FnX Tryz.prog (Je p))]
structure form where
 word:Za
 key:Int
 checks:List (Za->Bool)
 deriving Inhabited
def Mn (x:form):List Dat:=[.v (.string x.word),.v (vI x.key),.l 1 Hg x.checks]
theorem Qcv (low:Int) (high:Int) {K_:Prop} (k_:K_):(True)/\(Imp (.v (vI low)) (.v (vI low)))/\(Imp (.v (vI high)) (.v (vI high)))/\K_:=⟨trivial,Imp.refl _,Imp.refl _,k_⟩
theorem kc140 (words:List Za) {K_:Prop} (k_:K_):(True)/\(Imp (.l 1 eStr words) (.l 1 eStr words))/\K_:=⟨trivial,Imp.refl _,k_⟩
abbrev Ht (low:Int) (high:Int):Hint false Tryz.prog:=.call 137 (S137 low high) ((ok137 low high).to false) none
abbrev Ufl (words:List Za):Hint false Tryz.prog:=.call 140 (S140 words) ((ok140 words).to false) none
def Ws (x:Nat->SV):List Uq:=[⟨Zl,1,x 0⟩,⟨Zj,2,x 1⟩,⟨Zd,2,x 2⟩,⟨Zd,2,x 3⟩,⟨Zf,3,x 4⟩,⟨Zh,3,x 5⟩,⟨Zg,2,x 6⟩,⟨Zc,1,x 7⟩,⟨Zb,3,x 8⟩]
abbrev Zs:List Za:=[Zn]
abbrev Zt:List Za:=[Zo,Zp]
def all101:List form:=[⟨Zl,1,[(fun x0=>F88 x0)]⟩,⟨Zj,2,[(fun x0=>F88 x0),(fun x0=>F138 x0)]⟩,⟨Zd,2,[(fun x0=>F181 x0 0 7),(fun x0=>F139 x0)]⟩,⟨Zd,2,[(fun x0=>F181 x0 0 7),(fun x0=>F139 x0),(fun x0=>F182 x0 Zs),(fun x0=>F88 x0)]⟩,⟨Zf,3,[(fun x0=>F88 x0),(fun x0=>F181 x0 0 99),(fun x0=>F182 x0 Zt),(fun x0=>F139 x0),(fun x0=>F139 x0),(fun x0=>F181 x0 0 7)]⟩,⟨Zh,3,[(fun x0=>F139 x0),(fun x0=>F141 x0)]⟩,⟨Zg,2,[(fun x0=>F141 x0),(fun x0=>F181 x0 1 9),(fun x0=>F181 x0 1 999999)]⟩,⟨Zc,1,[(fun x0=>F139 x0),(fun x0=>F141 x0),(fun x0=>F181 x0 1 65535),(fun x0=>F181 x0 1 65535)]⟩,⟨Zb,3,[(fun x0=>F181 x0 1 7),(fun x0=>F181 x0 1 65535),(fun x0=>F141 x0),(fun x0=>F181 x0 1 65535)]⟩]
def Bv (x:Nat->SV):List (Value×Dat):=[(sv (x 0),.l 1 Hg [(fun x0=>F88 x0)]),(sv (x 1),.l 1 Hg [(fun x0=>F88 x0),(fun x0=>F138 x0)]),(sv (x 2),.l 1 Hg [(fun x0=>F181 x0 0 7),(fun x0=>F139 x0)]),(sv (x 3),.l 1 Hg [(fun x0=>F181 x0 0 7),(fun x0=>F139 x0),(fun x0=>F182 x0 Zs),(fun x0=>F88 x0)]),(sv (x 4),.l 1 Hg [(fun x0=>F88 x0),(fun x0=>F181 x0 0 99),(fun x0=>F182 x0 Zt),(fun x0=>F139 x0),(fun x0=>F139 x0),(fun x0=>F181 x0 0 7)]),(sv (x 5),.l 1 Hg [(fun x0=>F139 x0),(fun x0=>F141 x0)]),(sv (x 6),.l 1 Hg [(fun x0=>F141 x0),(fun x0=>F181 x0 1 9),(fun x0=>F181 x0 1 999999)]),(sv (x 7),.l 1 Hg [(fun x0=>F139 x0),(fun x0=>F141 x0),(fun x0=>F181 x0 1 65535),(fun x0=>F181 x0 1 65535)]),(sv (x 8),.l 1 Hg [(fun x0=>F181 x0 1 7),(fun x0=>F181 x0 1 65535),(fun x0=>F141 x0),(fun x0=>F181 x0 1 65535)])]
def fh88:FnH Tryz.prog:=⟨true,88,Je (fun x0=>F88 x0),[],rfl,True,fun i=>Qjg (ok88 i)⟩
theorem ca88:Ux Tryz.prog 88=true:=by kernel_rfl
def fh138:FnH Tryz.prog:=⟨true,138,Je (fun x0=>F138 x0),[],rfl,True,fun i=>Qjg (ok138 i)⟩
theorem ca138:Ux Tryz.prog 138=true:=by kernel_rfl
def Qit:FnH Tryz.prog:=⟨false,139,Je (fun x0=>F139 x0),[],rfl,True,fun i=>Qjg (ok139 i)⟩
theorem Qiu:Ux Tryz.prog 139=true:=by kernel_rfl
def Qvp:FnH Tryz.prog:=⟨false,141,Je (fun x0=>F141 x0),[],rfl,True,fun i=>Qjg (ok141 i)⟩
theorem Qul:Ux Tryz.prog 141=true:=by kernel_rfl
def Ho (a b:Int):FnH Tryz.prog:=⟨false,181,Je (fun x0=>F181 x0 a b),[.rp [.v (vI a)],.rp [.v (vI b)]],rfl,True,fun i=>Qjg (ok181 i a b)⟩
theorem Hx:Ux Tryz.prog 181=true:=by kernel_rfl
def fh182 (l:List Za):FnH Tryz.prog:=⟨true,182,Je (fun x0=>F182 x0 l),[.rp [.l 1 eStr l]],rfl,True,fun i=>Qjg (ok182 i l)⟩
theorem ca182:Ux Tryz.prog 182=true:=by kernel_rfl
theorem Ukl (word:Za):Qto Tryz.prog 45 (fun _:Unit=>(⟨[(1,some (.p 0 0)),(5,some (.h 1 0)),(8,some (.h 2 0))],[(0,some (.box 9 [.v (.string word)])),(1,some (.arr 9 [.v (.string Zl),.v (vI 1),.h 2 0,.v (.string Zj),.v (vI 2),.h 3 0,.v (.string Zd),.v (vI 2),.h 4 0,.v (.string Zd),.v (vI 2),.h 7 0,.v (.string Zf),.v (vI 3),.h 12 0,.v (.string Zh),.v (vI 3),.h 19 0,.v (.string Zg),.v (vI 2),.h 20 0,.v (.string Zc),.v (vI 1),.h 25 0,.v (.string Zb),.v (vI 3),.h 28 0])),(2,some (.arr 1 [.cl 88 []])),(3,some (.arr 2 [.cl 88 [],.cl 138 []])),(4,some (.arr 2 [.cl 181 [.p 5 0,.p 6 0],.cl 139 []])),(5,some (.box 3 [.v (vI 0)])),(6,some (.box 3 [.v (vI 7)])),(7,some (.arr 4 [.cl 181 [.p 8 0,.p 9 0],.cl 139 [],.cl 182 [.p 10 0],.cl 88 []])),(8,some (.box 3 [.v (vI 0)])),(9,some (.box 3 [.v (vI 7)])),(10,some (.box 22 [.h 11 0])),(11,some (.own 11 (.l 1 eStr Zs))),(12,some (.arr 6 [.cl 88 [],.cl 181 [.p 13 0,.p 14 0],.cl 182 [.p 15 0],.cl 139 [],.cl 139 [],.cl 181 [.p 17 0,.p 18 0]])),(13,some (.box 3 [.v (vI 0)])),(14,some (.box 3 [.v (vI 99)])),(15,some (.box 22 [.h 16 0])),(16,some (.own 16 (.l 1 eStr Zt))),(17,some (.box 3 [.v (vI 0)])),(18,some (.box 3 [.v (vI 7)])),(19,some (.arr 2 [.cl 139 [],.cl 141 []])),(20,some (.arr 3 [.cl 141 [],.cl 181 [.p 21 0,.p 22 0],.cl 181 [.p 23 0,.p 24 0]])),(21,some (.box 3 [.v (vI 1)])),(22,some (.box 3 [.v (vI 9)])),(23,some (.box 3 [.v (vI 1)])),(24,some (.box 3 [.v (vI 999999)])),(25,some (.arr 4 [.cl 139 [],.cl 141 [],.cl 181 [.p 26 0,.p 27 0],.cl 181 [.p 26 0,.p 27 0]])),(26,some (.box 3 [.v (vI 1)])),(27,some (.box 3 [.v (vI 65535)])),(28,some (.arr 4 [.cl 181 [.p 29 0,.p 30 0],.cl 181 [.p 26 0,.p 27 0],.cl 141 [],.cl 181 [.p 26 0,.p 27 0]])),(29,some (.box 3 [.v (vI 1)])),(30,some (.box 3 [.v (vI 7)]))],31⟩:St)) (fun _=>True) (fun x:Nat->SV=>(⟨[(1,some (.p 0 0)),(5,some (.h 1 0)),(8,some (.h 2 0))],[(0,some (.box 9 [.v (.string word)])),(1,some (.own 1 (.l 3 Yb (Ws x)))),(2,some (.own 2 (.x (LX (Bv x)))))],31⟩:St)) (fun _=>True):=by
 intro ψ IN w0 w a i _ H
 obtain ⟨β,φ,dom,V⟩:=H
 have R:=V.rel
 have hall:Qss (fsG (⟨[(1,some (.p 0 0)),(5,some (.h 1 0)),(8,some (.h 2 0))],[(0,some (.box 9 [.v (.string word)])),(1,some (.arr 9 [.v (.string Zl),.v (vI 1),.h 2 0,.v (.string Zj),.v (vI 2),.h 3 0,.v (.string Zd),.v (vI 2),.h 4 0,.v (.string Zd),.v (vI 2),.h 7 0,.v (.string Zf),.v (vI 3),.h 12 0,.v (.string Zh),.v (vI 3),.h 19 0,.v (.string Zg),.v (vI 2),.h 20 0,.v (.string Zc),.v (vI 1),.h 25 0,.v (.string Zb),.v (vI 3),.h 28 0])),(2,some (.arr 1 [.cl 88 []])),(3,some (.arr 2 [.cl 88 [],.cl 138 []])),(4,some (.arr 2 [.cl 181 [.p 5 0,.p 6 0],.cl 139 []])),(5,some (.box 3 [.v (vI 0)])),(6,some (.box 3 [.v (vI 7)])),(7,some (.arr 4 [.cl 181 [.p 8 0,.p 9 0],.cl 139 [],.cl 182 [.p 10 0],.cl 88 []])),(8,some (.box 3 [.v (vI 0)])),(9,some (.box 3 [.v (vI 7)])),(10,some (.box 22 [.h 11 0])),(11,some (.own 11 (.l 1 eStr Zs))),(12,some (.arr 6 [.cl 88 [],.cl 181 [.p 13 0,.p 14 0],.cl 182 [.p 15 0],.cl 139 [],.cl 139 [],.cl 181 [.p 17 0,.p 18 0]])),(13,some (.box 3 [.v (vI 0)])),(14,some (.box 3 [.v (vI 99)])),(15,some (.box 22 [.h 16 0])),(16,some (.own 16 (.l 1 eStr Zt))),(17,some (.box 3 [.v (vI 0)])),(18,some (.box 3 [.v (vI 7)])),(19,some (.arr 2 [.cl 139 [],.cl 141 []])),(20,some (.arr 3 [.cl 141 [],.cl 181 [.p 21 0,.p 22 0],.cl 181 [.p 23 0,.p 24 0]])),(21,some (.box 3 [.v (vI 1)])),(22,some (.box 3 [.v (vI 9)])),(23,some (.box 3 [.v (vI 1)])),(24,some (.box 3 [.v (vI 999999)])),(25,some (.arr 4 [.cl 139 [],.cl 141 [],.cl 181 [.p 26 0,.p 27 0],.cl 181 [.p 26 0,.p 27 0]])),(26,some (.box 3 [.v (vI 1)])),(27,some (.box 3 [.v (vI 65535)])),(28,some (.arr 4 [.cl 181 [.p 29 0,.p 30 0],.cl 181 [.p 26 0,.p 27 0],.cl 141 [],.cl 181 [.p 26 0,.p 27 0]])),(29,some (.box 3 [.v (vI 1)])),(30,some (.box 3 [.v (vI 7)]))],31⟩:St).fs) [2,3,4,5,6,7,8,9,10,11,12,13,14,15,16,17,18,19,20,21,22,23,24,25,26,27,28,29,30]=true:=rfl
 have hS:∀ id∈[2,3,4,5,6,7,8,9,10,11,12,13,14,15,16,17,18,19,20,21,22,23,24,25,26,27,28,29,30],∀ b∈φ id,b∈[2,3,4,5,6,7,8,9,10,11,12,13,14,15,16,17,18,19,20,21,22,23,24,25,26,27,28,29,30].flatMap φ:=fun id hid b hb=>List.mem_flatMap.2 ⟨id,hid,hb⟩
 have hlt:=R.flat_lt (Qjy hall)
 have e2:=Hb R (show fsG _ 2=_ from rfl)
 have e3:=Hb R (show fsG _ 3=_ from rfl)
 have e4:=Hb R (show fsG _ 4=_ from rfl)
 have e7:=Hb R (show fsG _ 7=_ from rfl)
 have e12:=Hb R (show fsG _ 12=_ from rfl)
 have e19:=Hb R (show fsG _ 19=_ from rfl)
 have e20:=Hb R (show fsG _ 20=_ from rfl)
 have e25:=Hb R (show fsG _ 25=_ from rfl)
 have e28:=Hb R (show fsG _ 28=_ from rfl)
 have he:([.v (.string Zl),.v (vI 1),.v (sv (toSV (β 2 0))),.v (.string Zj),.v (vI 2),.v (sv (toSV (β 3 0))),.v (.string Zd),.v (vI 2),.v (sv (toSV (β 4 0))),.v (.string Zd),.v (vI 2),.v (sv (toSV (β 7 0))),.v (.string Zf),.v (vI 3),.v (sv (toSV (β 12 0))),.v (.string Zh),.v (vI 3),.v (sv (toSV (β 19 0))),.v (.string Zg),.v (vI 2),.v (sv (toSV (β 20 0))),.v (.string Zc),.v (vI 1),.v (sv (toSV (β 25 0))),.v (.string Zb),.v (vI 3),.v (sv (toSV (β 28 0)))]:List Dat)=[.v (.string Zl),.v (vI 1),.v (β 2 0),.v (.string Zj),.v (vI 2),.v (β 3 0),.v (.string Zd),.v (vI 2),.v (β 4 0),.v (.string Zd),.v (vI 2),.v (β 7 0),.v (.string Zf),.v (vI 3),.v (β 12 0),.v (.string Zh),.v (vI 3),.v (β 19 0),.v (.string Zg),.v (vI 2),.v (β 20 0),.v (.string Zc),.v (vI 1),.v (β 25 0),.v (.string Zb),.v (vI 3),.v (β 28 0)]:=by rw [<- e2,<- e3,<- e4,<- e7,<- e12,<- e19,<- e20,<- e25,<- e28]
 refine ⟨fun k=>toSV (β (([2,3,4,7,12,19,20,25,28]:List Nat).getD k 0) 0),trivial,pack3 (bx:=[.string word]) (rest:=[2,3,4,5,6,7,8,9,10,11,12,13,14,15,16,17,18,19,20,21,22,23,24,25,26,27,28,29,30]) V rfl ⟨_,rfl,rfl⟩ hall uu2 (R.ok 2 _ rfl).1 (Uiv R (show fsG _ 1=_ from rfl) rfl uu2 (fun _=>rfl) he) (fun hnd _=>⟨⟨R.all1 2 0,?_⟩,hnd,hlt⟩)⟩
 exact ⟨RdV.at_sv e2 (Vh R (F:=Je) (show fsG _ 2=_ from rfl) rfl uu2 (fun _=>rfl) (hS 2 uu2) ⟨_,_,rfl,Kr fh88 rfl trivial hlt ca88 rfl,rfl⟩),
  RdV.at_sv e3 (Vh R (F:=Je) (show fsG _ 3=_ from rfl) rfl uu2 (fun _=>rfl) (hS 3 uu2) ⟨_,_,rfl,Kr fh88 rfl trivial hlt ca88 rfl,⟨_,_,rfl,Kr fh138 rfl trivial hlt ca138 rfl,rfl⟩⟩),
  RdV.at_sv e4 (Vh R (F:=Je) (show fsG _ 4=_ from rfl) rfl uu2 (fun _=>rfl) (hS 4 uu2) ⟨_,_,rfl,Xb R (Ho 0 7) (show fsG _ 5=_ from rfl) (show fsG _ 6=_ from rfl) rfl trivial (hS 5 uu2) (hS 6 uu2) hlt Hx rfl rfl rfl,⟨_,_,rfl,Kr Qit rfl trivial hlt Qiu rfl,rfl⟩⟩),
  RdV.at_sv e7 (Vh R (F:=Je) (show fsG _ 7=_ from rfl) rfl uu2 (fun _=>rfl) (hS 7 uu2) ⟨_,_,rfl,Xb R (Ho 0 7) (show fsG _ 8=_ from rfl) (show fsG _ 9=_ from rfl) rfl trivial (hS 8 uu2) (hS 9 uu2) hlt Hx rfl rfl rfl,⟨_,_,rfl,Kr Qit rfl trivial hlt Qiu rfl,⟨_,_,rfl,Uhh R (fh182 Zs) (show fsG _ 10=_ from rfl) (show fsG _ 11=_ from rfl) rfl trivial (hS 10 uu2) (hS 11 uu2) hlt ca182 rfl,⟨_,_,rfl,Kr fh88 rfl trivial hlt ca88 rfl,rfl⟩⟩⟩⟩),
  RdV.at_sv e12 (Vh R (F:=Je) (show fsG _ 12=_ from rfl) rfl uu2 (fun _=>rfl) (hS 12 uu2) ⟨_,_,rfl,Kr fh88 rfl trivial hlt ca88 rfl,⟨_,_,rfl,Xb R (Ho 0 99) (show fsG _ 13=_ from rfl) (show fsG _ 14=_ from rfl) rfl trivial (hS 13 uu2) (hS 14 uu2) hlt Hx rfl rfl rfl,⟨_,_,rfl,Uhh R (fh182 Zt) (show fsG _ 15=_ from rfl) (show fsG _ 16=_ from rfl) rfl trivial (hS 15 uu2) (hS 16 uu2) hlt ca182 rfl,⟨_,_,rfl,Kr Qit rfl trivial hlt Qiu rfl,⟨_,_,rfl,Kr Qit rfl trivial hlt Qiu rfl,⟨_,_,rfl,Xb R (Ho 0 7) (show fsG _ 17=_ from rfl) (show fsG _ 18=_ from rfl) rfl trivial (hS 17 uu2) (hS 18 uu2) hlt Hx rfl rfl rfl,rfl⟩⟩⟩⟩⟩⟩),
  RdV.at_sv e19 (Vh R (F:=Je) (show fsG _ 19=_ from rfl) rfl uu2 (fun _=>rfl) (hS 19 uu2) ⟨_,_,rfl,Kr Qit rfl trivial hlt Qiu rfl,⟨_,_,rfl,Kr Qvp rfl trivial hlt Qul rfl,rfl⟩⟩),
  RdV.at_sv e20 (Vh R (F:=Je) (show fsG _ 20=_ from rfl) rfl uu2 (fun _=>rfl) (hS 20 uu2) ⟨_,_,rfl,Kr Qvp rfl trivial hlt Qul rfl,⟨_,_,rfl,Xb R (Ho 1 9) (show fsG _ 21=_ from rfl) (show fsG _ 22=_ from rfl) rfl trivial (hS 21 uu2) (hS 22 uu2) hlt Hx rfl rfl rfl,⟨_,_,rfl,Xb R (Ho 1 999999) (show fsG _ 23=_ from rfl) (show fsG _ 24=_ from rfl) rfl trivial (hS 23 uu2) (hS 24 uu2) hlt Hx rfl rfl rfl,rfl⟩⟩⟩),
  RdV.at_sv e25 (Vh R (F:=Je) (show fsG _ 25=_ from rfl) rfl uu2 (fun _=>rfl) (hS 25 uu2) ⟨_,_,rfl,Kr Qit rfl trivial hlt Qiu rfl,⟨_,_,rfl,Kr Qvp rfl trivial hlt Qul rfl,⟨_,_,rfl,Xb R (Ho 1 65535) (show fsG _ 26=_ from rfl) (show fsG _ 27=_ from rfl) rfl trivial (hS 26 uu2) (hS 27 uu2) hlt Hx rfl rfl rfl,⟨_,_,rfl,Xb R (Ho 1 65535) (show fsG _ 26=_ from rfl) (show fsG _ 27=_ from rfl) rfl trivial (hS 26 uu2) (hS 27 uu2) hlt Hx rfl rfl rfl,rfl⟩⟩⟩⟩),
  RdV.at_sv e28 (Vh R (F:=Je) (show fsG _ 28=_ from rfl) rfl uu2 (fun _=>rfl) (hS 28 uu2) ⟨_,_,rfl,Xb R (Ho 1 7) (show fsG _ 29=_ from rfl) (show fsG _ 30=_ from rfl) rfl trivial (hS 29 uu2) (hS 30 uu2) hlt Hx rfl rfl rfl,⟨_,_,rfl,Xb R (Ho 1 65535) (show fsG _ 26=_ from rfl) (show fsG _ 27=_ from rfl) rfl trivial (hS 26 uu2) (hS 27 uu2) hlt Hx rfl rfl rfl,⟨_,_,rfl,Kr Qvp rfl trivial hlt Qul rfl,⟨_,_,rfl,Xb R (Ho 1 65535) (show fsG _ 26=_ from rfl) (show fsG _ 27=_ from rfl) rfl trivial (hS 26 uu2) (hS 27 uu2) hlt Hx rfl rfl rfl,rfl⟩⟩⟩⟩),trivial⟩
theorem Uku (word:Za) (x:Nat->SV):Qto Tryz.prog 45 (fun _:Unit=>(⟨[(2,some (.h 0 0)),(8,some (.h 1 0))],[(0,some (.own 0 (.l 3 Yb ((Ws x).filter (fun x=>!((fun (x0:Uq)=>F143 x0 word) x)))))),(1,some (.own 1 (.x (LX (Bv x)))))],2⟩:St)) (fun _=>True) (fun _:Unit=>(⟨[(2,some (.h 0 0))],[(0,some (.own 0 (.b (.l 3 Mn (all101.filter (fun z=>z.word.toList==word.toList))))))],2⟩:St)) (fun _=>True):=by
 intro ψ IN w0 w a i _ H
 refine ⟨(),trivial,pack1 rfl rfl rfl (fun v y f g h1 h2=>?_) H⟩
 have hx:RdAll (fun b=>b∈f++g) w (Bv x):=h2.1.2.mono fun b hb=>⟨Qv _ hb,rfl⟩
 have hall:Rel2 (fun (y:Uq) (z:form)=>y.word=z.word/\∀ cs,RdVs (fun b=>b∈f++g) w (Yb y) cs->RdVs (fun b=>b∈f++g) w (Mn z) cs) (Ws x) all101:=⟨⟨rfl,row3 hx.1⟩,⟨rfl,row3 hx.2.1⟩,⟨rfl,row3 hx.2.2.1⟩,⟨rfl,row3 hx.2.2.2.1⟩,⟨rfl,row3 hx.2.2.2.2.1⟩,⟨rfl,row3 hx.2.2.2.2.2.1⟩,⟨rfl,row3 hx.2.2.2.2.2.2.1⟩,⟨rfl,row3 hx.2.2.2.2.2.2.2.1⟩,⟨rfl,row3 hx.2.2.2.2.2.2.2.2.1⟩,trivial⟩
 refine Uak h1 (fun b hb=>Qx _ hb) (Rel2.mono (fun a c h=>h.2) (Rel2.filter (fun y z h=>?_) hall))
 simp only [F143,h.1,Bool.not_not]
def F101 (word:Za):List form :=
 (all101.filter (fun z=>z.word.toList==word.toList))
def S101 (word:Za):Spec:=⟨[.r (.c (.v (.string word)))],.ow (.b (.l 3 Mn (F101 word))),True⟩
theorem ok101 (word:Za):(S101 word).ok Tryz.prog 101 false :=
 Ue mixed (fn:=Tryz.f101) (ct:=.seq .no (.seq (.reg [(0,Ht 1 65535),(1,Ht 1 7)]) (.hnd (ι:=Unit) (κ:=(Nat->SV)) (fun _=>(⟨[(1,some (.p 0 0)),(5,some (.h 1 0)),(8,some (.h 2 0))],[(0,some (.box 9 [.v (.string word)])),(1,some (.arr 9 [.v (.string Zl),.v (vI 1),.h 2 0,.v (.string Zj),.v (vI 2),.h 3 0,.v (.string Zd),.v (vI 2),.h 4 0,.v (.string Zd),.v (vI 2),.h 7 0,.v (.string Zf),.v (vI 3),.h 12 0,.v (.string Zh),.v (vI 3),.h 19 0,.v (.string Zg),.v (vI 2),.h 20 0,.v (.string Zc),.v (vI 1),.h 25 0,.v (.string Zb),.v (vI 3),.h 28 0])),(2,some (.arr 1 [.cl 88 []])),(3,some (.arr 2 [.cl 88 [],.cl 138 []])),(4,some (.arr 2 [.cl 181 [.p 5 0,.p 6 0],.cl 139 []])),(5,some (.box 3 [.v (vI 0)])),(6,some (.box 3 [.v (vI 7)])),(7,some (.arr 4 [.cl 181 [.p 8 0,.p 9 0],.cl 139 [],.cl 182 [.p 10 0],.cl 88 []])),(8,some (.box 3 [.v (vI 0)])),(9,some (.box 3 [.v (vI 7)])),(10,some (.box 22 [.h 11 0])),(11,some (.own 11 (.l 1 eStr Zs))),(12,some (.arr 6 [.cl 88 [],.cl 181 [.p 13 0,.p 14 0],.cl 182 [.p 15 0],.cl 139 [],.cl 139 [],.cl 181 [.p 17 0,.p 18 0]])),(13,some (.box 3 [.v (vI 0)])),(14,some (.box 3 [.v (vI 99)])),(15,some (.box 22 [.h 16 0])),(16,some (.own 16 (.l 1 eStr Zt))),(17,some (.box 3 [.v (vI 0)])),(18,some (.box 3 [.v (vI 7)])),(19,some (.arr 2 [.cl 139 [],.cl 141 []])),(20,some (.arr 3 [.cl 141 [],.cl 181 [.p 21 0,.p 22 0],.cl 181 [.p 23 0,.p 24 0]])),(21,some (.box 3 [.v (vI 1)])),(22,some (.box 3 [.v (vI 9)])),(23,some (.box 3 [.v (vI 1)])),(24,some (.box 3 [.v (vI 999999)])),(25,some (.arr 4 [.cl 139 [],.cl 141 [],.cl 181 [.p 26 0,.p 27 0],.cl 181 [.p 26 0,.p 27 0]])),(26,some (.box 3 [.v (vI 1)])),(27,some (.box 3 [.v (vI 65535)])),(28,some (.arr 4 [.cl 181 [.p 29 0,.p 30 0],.cl 181 [.p 26 0,.p 27 0],.cl 141 [],.cl 181 [.p 26 0,.p 27 0]])),(29,some (.box 3 [.v (vI 1)])),(30,some (.box 3 [.v (vI 7)]))],31⟩:St)) (fun _=>True) (fun (x:Nat->SV)=>(⟨[(1,some (.p 0 0)),(5,some (.h 1 0)),(8,some (.h 2 0))],[(0,some (.box 9 [.v (.string word)])),(1,some (.own 1 (.l 3 Yb (Ws x)))),(2,some (.own 2 (.x (LX (Bv x)))))],31⟩:St)) (fun _=>True) (.reg [(4,Ht 0 7),(7,Ht 0 7),(8,.dat (.l 1 eStr Zs)),(9,Ufl Zs),(12,Ht 0 99),(13,.dat (.l 1 eStr Zt)),(14,Ufl Zt),(15,Ht 0 7),(20,Ht 1 9),(21,Ht 1 999999)]) (fun (x:Nat->SV)=>.hnd (ι:=Unit) (κ:=Unit) (fun _=>(⟨[(2,some (.h 0 0)),(8,some (.h 1 0))],[(0,some (.own 0 (.l 3 Yb ((Ws x).filter (fun x=>!((fun (x0:Uq)=>F143 x0 word) x)))))),(1,some (.own 1 (.x (LX (Bv x)))))],2⟩:St)) (fun _=>True) (fun (_:Unit)=>(⟨[(2,some (.h 0 0))],[(0,some (.own 0 (.b (.l 3 Mn (all101.filter (fun z=>z.word.toList==word.toList))))))],2⟩:St)) (fun _=>True) (.reg [(2,.call 142 (S142 ((Ws x).filter (fun x=>!((fun (x0:Uq)=>F143 x0 word) x))) (Ws x) (fun (x0:Uq)=>F143 x0 word) (fun (x0:Uq)=>True)) (oa142 (Ws x) (fun (x0:Uq)=>F143 x0 word) (fun (x0:Uq)=>True)) (some ⟨true,143,Kj (fun (x0:Uq)=>True) (fun (x0:Uq)=>F143 x0 word),[.rp ([.v (.string word)])],rfl,True,fun i=>Ugv (ok143 i word)⟩))]) (fun (_:Unit)=>.no))))) Tryz.func101 (fun (_:True)=>Qcv 1 65535 (Qcv 1 7 (ai (Qcv 0 7 (Qcv 0 7 (ai (bokr 1 eStr Zs fun _=>rfl) (kc140 Zs (Qcv 0 99 (ai (bokr 1 eStr Zt fun _=>rfl) (kc140 Zt (Qcv 0 7 (Qcv 1 9 (Qcv 1 999999 (Exists.intro (p:=fun (_:Unit)=>((.string word:Value)=.string word)/\((.string Zl:Value)=.string Zl)/\((.int .i64 1:Value)=.int .i64 1)/\((.string Zj:Value)=.string Zj)/\((.int .i64 2:Value)=.int .i64 2)/\((.string Zd:Value)=.string Zd)/\((.int .i64 2:Value)=.int .i64 2)/\((.string Zd:Value)=.string Zd)/\((.int .i64 2:Value)=.int .i64 2)/\((.string Zf:Value)=.string Zf)/\((.int .i64 3:Value)=.int .i64 3)/\((.string Zh:Value)=.string Zh)/\((.int .i64 3:Value)=.int .i64 3)/\((.string Zg:Value)=.string Zg)/\((.int .i64 2:Value)=.int .i64 2)/\((.string Zc:Value)=.string Zc)/\((.int .i64 1:Value)=.int .i64 1)/\((.string Zb:Value)=.string Zb)/\((.int .i64 3:Value)=.int .i64 3)/\((.int .i64 0:Value)=.int .i64 0)/\((.int .i64 7:Value)=.int .i64 7)/\((.int .i64 0:Value)=.int .i64 0)/\((.int .i64 7:Value)=.int .i64 7)/\(Imp (.l 1 eStr Zs) (.l 1 eStr Zs))/\((.int .i64 0:Value)=.int .i64 0)/\((.int .i64 99:Value)=.int .i64 99)/\(Imp (.l 1 eStr Zt) (.l 1 eStr Zt))/\((.int .i64 0:Value)=.int .i64 0)/\((.int .i64 7:Value)=.int .i64 7)/\((.int .i64 1:Value)=.int .i64 1)/\((.int .i64 9:Value)=.int .i64 9)/\((.int .i64 1:Value)=.int .i64 1)/\((.int .i64 999999:Value)=.int .i64 999999)/\((.int .i64 1:Value)=.int .i64 1)/\((.int .i64 65535:Value)=.int .i64 65535)/\((.int .i64 1:Value)=.int .i64 1)/\((.int .i64 7:Value)=.int .i64 7)/\True) () (ai rfl (ai rfl (ai rfl (ai rfl (ai rfl (ai rfl (ai rfl (ai rfl (ai rfl (ai rfl (ai rfl (ai rfl (ai rfl (ai rfl (ai rfl (ai rfl (ai rfl (ai rfl (ai rfl (ai rfl (ai rfl (ai rfl (ai rfl (ai ir (ai rfl (ai rfl (ai ir (ai rfl (ai rfl (ai rfl (ai rfl (ai rfl (ai rfl (ai rfl (ai rfl (ai rfl (ai rfl trivial)))))))))))))))))))))))))))))))))))))))))))))))) (ai (Ukl word) (fun (x:Nat->SV) (_:True)=>ai (ai (ai (by exact (by decide:(9:Nat)<=1000000000):(Ws x).length<=1000000000) (by (intros; exact trivial):∀ k:Nat,k<(Ws x).length->(fun (x0:Uq)=>True) ((Ws x).getD k default))) (ai (Imp.refl (.l 3 Yb (Ws x))) (ai (Eq.refl (Kj (fun (x0:Uq)=>True) (fun (x0:Uq)=>F143 x0 word))) (ai trivial (ai (Imps.refl [.v (.string word)]) (Exists.intro (p:=fun (_:Unit)=>(Imp (.l 3 Yb ((Ws x).filter (fun x=>!((fun (x0:Uq)=>F143 x0 word) x)))) (.l 3 Yb ((Ws x).filter (fun x=>!((fun (x0:Uq)=>F143 x0 word) x)))))/\(Imp (.x (LX (Bv x))) (.x (LX (Bv x))))/\True) () (ai ir (ai ir trivial)))))))) (ai (Uku word x) (fun (_:Unit) (_:True)=>(fun hF:((all101.filter (fun z=>z.word.toList==word.toList)):List form)=(F101 word)=>ai (Imp.of_eq (Qt (fun r:List form=>Dat.b (Dat.l 3 Mn r)) hF)) trivial) rfl))))))) uu1
theorem g101_0 (word:Za):∀ k:Nat,((F101 word).getD k default).checks.length<=6:=by
 have hall:∀ z∈all101,z.checks.length<=6:=by
  intro z hz
  simp only [all101,Qu,Rv,G4] at hz
  rcases hz with rfl | rfl | rfl | rfl | rfl | rfl | rfl | rfl | rfl <;> decide
 intro k
 rw [Qd]
 cases h:(F101 word)[k]? with
 | none=>exact Qy 6
 | some z=>exact hall z (Tm.1 (Q9 h)).1
def Xi (f:form) (words:List Za):Int->Lp Int Bool:=fun v17 =>
 bif (decide (v17<(f.checks.length:Int))) then (bif (!((f.checks.getD v17.toNat default) (words.getD (v17+1).toNat default))) then (.ret false) else (.next (v17+1))) else (.done v17)
def F102 (f:form) (words:List Za):Bool :=
 bif ((words.length:Int) != ((f.checks.length:Int)+1)) then false else ((runL (Xi f words) (((f.checks.length:Int)-0).toNat+1) 0).fin (fun r=>r) (fun v17=>true))
abbrev Eb (f:form):Nat×Int:=((((f.checks.length:Int)-0).toNat+1),0)
abbrev Qne (f:form) (m39:Nat) (v17:Int):Prop:=Int.toNat ((f.checks.length:Int)-v17)<m39/\(0:Int)<=v17
abbrev Qza (f:form) (words:List Za):Lp Int Bool:=LpX (Xi f words) (Eb f)
abbrev Nw (f:form) (words:List Za) (i:Nat×Int):Prop:=LpJ (Xi f words) (Eb f) i (Qne f i.1 i.2)
abbrev Qzf (f:form) (words:List Za) (i:Nat×Int) (m39:Nat) (v17:Int):Prop:=LpH (Xi f words) (Eb f) i m39 v17 (Qne f (m39+1) v17)
abbrev Qye (f:form) (words:List Za) (v17:Int) (v17_:Int) (K39:Prop):Prop:=(Rf (.int .i64 (f.checks.length:Int)))/\((.int .i64 v17:Value)=.int .i64 v17_)/\(Im (.l 1 eStr words))/\(Im (.l 1 Hg f.checks))/\K39
theorem Uit (f:form) (words:List Za) (i:Nat×Int) (h:Nw f words i):Qzf f words i (i.1-1) i.2:=⟨hd1 h.1 h.2.1,hd3 h.2.1,hd2 h.2.1,h.2.2⟩
theorem Ulc (f:form) (words:List Za) (i:Nat×Int) (m39:Nat) (v17:Int) (hl:m39<i.1) (e:runL (Xi f words) m39 v17=Qza f words) (h:Qne f m39 v17):∃ j:Nat×Int,Qye f words v17 j.2 (Nw f words j/\j.1<i.1):=⟨(m39,v17),rfl,rfl,Imp.refl _,Imp.refl _,⟨e,h⟩,hl⟩
theorem Uly (f:form) (words:List Za) (h:(0:Int)<=0):Qye f words 0 0 (Nw f words (Eb f)):=⟨rfl,rfl,Imp.refl _,Imp.refl _,rfl,Qn _,h⟩
def S102 (f:form) (words:List Za):Spec:=⟨[.r (.g (Mn f)),.r (.c (.l 1 eStr words))],.v (.bool (F102 f words)),f.checks.length<=6/\(∀ k:Nat,(words.getD k default).size<=1048576)⟩
theorem ok102 (f:form) (words:List Za):(S102 f words).ok Tryz.prog 102 false :=
 Ue mixed (fn:=Tryz.f102) (ct:=.seqk [(1,0)] .no (.seq (.seq (.reg [(5,.bnd)]) (.cond (.seq .no .no) .no)) (.seq (.seqk [(1,0),(15,0)] .no (.blk (.loop (ι:=Nat×Int) (fun i=>(fun (v17:Int)=>(⟨[(1,some (.h 0 0)),(15,some (.h 1 0)),(16,some (.v (vI (f.checks.length:Int)))),(17,some (.v (vI v17)))],[(0,some (.shr none (.l 1 eStr words))),(1,some (.shr none (.l 1 Hg f.checks)))],2⟩:St)) i.2) (Nw f words) (fun i=>i.1) (Eb f) (fun i=>(fun (v17:Int)=>(.seq .no (.seq (.cond .no .no) (.seq (.blk (.seq .no (.seq (.reg [(3,.bnd),(6,.fnv (Je (f.checks.getD v17.toNat default)) (words.getD (v17+1).toNat default))]) (.cond (.seq .no .no) .no)))) (.reg [(0,.bnd)]))))) i.2)))) (.seq .no .no)))) Tryz.func102 (fun (hp:f.checks.length<=6/\(∀ k:Nat,(words.getD k default).size<=1048576))=>have hpre0:=hp.1; have hpre1:=hp.2; kn words fun _=>ai (iok ((f.checks.length:Int)+1) uu0) (ifn (words.length:Int) ((f.checks.length:Int)+1) (fun h1 _=>fiB false (F102 f words) (condT h1 rfl)) (fun h1 _=>kn words fun _=>kn f.checks fun _=>ai (Uly f words uu0) (fun (i0:Nat×Int) (hi0:Nw f words i0)=>(fun (m0:Nat) (v17:Int) (hh0:Qzf f words i0 m0 v17)=>have hI0:=hh0.1; have hl0:=hh0.2.1; have _:=hh0.2.2.1; have _:=hh0.2.2.2; ifd (v17<(f.checks.length:Int)) (fun h3 _=>ai (uu0:ib v17 f.checks) (ai (iok (v17+1) uu0) (ai (uu0:ib (v17+1) words) (ai (Eq.refl (FnX Tryz.prog (Je (f.checks.getD v17.toNat default)))) (ai (Imp.bx (by exact hpre1 _:(words.getD (v17+1).toNat default).size<=1048576)) (ifb (!((f.checks.getD v17.toNat default) (words.getD (v17+1).toNat default))) (fun h4=>have _:=(Yq h4); fiB false (F102 f words) (condF h1 (finR (Um hI0 (condT h3 (condT h4 rfl))) rfl))) (fun h4=>have _:=(Uw h4); ai (iok (v17+1) uu0) (Ulc f words i0 m0 (v17+1) hl0 (Ud hI0 (condT h3 (condF h4 rfl))) uu5)))))))) (fun h3 _=>have hD0_5:Qza f words=Lp.done v17:=Uh hI0 (condF h3 rfl); fiB true (F102 f words) (condF h1 (finD hD0_5 rfl)))) (i0.1-1) i0.2 (Uit f words i0 hi0))))) uu1
theorem kc101 (word:Za) {K_:Prop} (k_:(∀ k:Nat,((F101 word).getD k default).checks.length<=6)->K_):(True)/\(Imp (.v (.string word)) (.v (.string word)))/\K_:=⟨trivial,Imp.refl _,k_ (g101_0 word)⟩
abbrev kh101 (word:Za):Hint false Tryz.prog:=.call 101 (S101 word) (ok101 word) none
theorem kc102 (f:form) (words:List Za) {K_:Prop} (p0_:f.checks.length<=6) (p1_:∀ k:Nat,(words.getD k default).size<=1048576) (k_:K_):(f.checks.length<=6/\(∀ k:Nat,(words.getD k default).size<=1048576))/\(Imps (Mn f) (Mn f))/\(Imp (.l 1 eStr words) (.l 1 eStr words))/\K_:=⟨⟨p0_,p1_⟩,Imps.refl _,Imp.refl _,k_⟩
abbrev kh102 (f:form) (words:List Za):Hint false Tryz.prog:=.call 102 (S102 f words) (ok102 f words) none
def Lf (words:List Za):Int->Lp Int (form×Bool):=fun v15 =>
 bif (decide (v15<((F101 (words.getD (Int.toNat 0) default)).length:Int))) then (bif (F102 ((F101 (words.getD (Int.toNat 0) default)).getD v15.toNat default) words) then (.ret (((F101 (words.getD (Int.toNat 0) default)).getD v15.toNat default),true)) else (.next (v15+1))) else (.done v15)
def F71 (words:List Za):form×Bool :=
 bif ((words.length:Int)==0) then ((⟨Zi,0,[]⟩:form),false) else ((runL (Lf words) ((((F101 (words.getD (Int.toNat 0) default)).length:Int)-0).toNat+1) 0).fin (fun r=>r) (fun v15=>((⟨Zi,0,[]⟩:form),false)))
abbrev Qez (words:List Za):Nat×Int:=(((((F101 (words.getD (Int.toNat 0) default)).length:Int)-0).toNat+1),0)
abbrev Qta (words:List Za) (m39:Nat) (v15:Int):Prop:=Int.toNat (((F101 (words.getD (Int.toNat 0) default)).length:Int)-v15)<m39/\(0:Int)<=v15
abbrev Ubx (words:List Za):Lp Int (form×Bool):=LpX (Lf words) (Qez words)
abbrev Qfv (words:List Za) (i:Nat×Int):Prop:=LpJ (Lf words) (Qez words) i (Qta words i.1 i.2)
abbrev Uie (words:List Za) (i:Nat×Int) (m39:Nat) (v15:Int):Prop:=LpH (Lf words) (Qez words) i m39 v15 (Qta words (m39+1) v15)
abbrev Uhs (words:List Za) (v15:Int) (v15_:Int) (K39:Prop):Prop:=(Rf (.int .i64 ((F101 (words.getD (Int.toNat 0) default)).length:Int)))/\((.int .i64 v15:Value)=.int .i64 v15_)/\(Im (.l 1 eStr words))/\(Rf (.string Zi))/\(Rf (.int .i64 0))/\(Rf (.slice none 0 0))/\(Im (.b (.l 3 Mn (F101 (words.getD (Int.toNat 0) default)))))/\K39
theorem un71_0 (words:List Za) (i:Nat×Int) (h:Qfv words i):Uie words i (i.1-1) i.2:=⟨hd1 h.1 h.2.1,hd3 h.2.1,hd2 h.2.1,h.2.2⟩
theorem bk71_0 (words:List Za) (i:Nat×Int) (m39:Nat) (v15:Int) (hl:m39<i.1) (e:runL (Lf words) m39 v15=Ubx words) (h:Qta words m39 v15):∃ j:Nat×Int,Uhs words v15 j.2 (Qfv words j/\j.1<i.1):=⟨(m39,v15),rfl,rfl,Imp.refl _,rfl,rfl,rfl,Imp.refl _,⟨e,h⟩,hl⟩
theorem en71_0 (words:List Za) (h:(0:Int)<=0):Uhs words 0 0 (Qfv words (Qez words)):=⟨rfl,rfl,Imp.refl _,rfl,rfl,rfl,Imp.refl _,rfl,Qn _,h⟩
def S71 (words:List Za):Spec:=⟨[.r (.c (.l 1 eStr words))],.tu [.ag [.v (.string (F71 words).1.word),.v (vI (F71 words).1.key),.ow .any],.v (.bool (F71 words).2)],(∀ k:Nat,(words.getD k default).size<=1048576)⟩
theorem ok71 (words:List Za):(S71 words).ok Tryz.prog 71 false :=
 Ue mixed (fn:=Tryz.f71) (ct:=.seqk [(0,0)] .no (.seq (.seq .no (.cond (.seq .no .no) .no)) (.seq (.seqk [(0,0),(13,0)] (.reg [(3,kh101 (words.getD (Int.toNat 0) default))]) (.blk (.loop (ι:=Nat×Int) (fun i=>(fun (v15:Int)=>(⟨[(0,some (.h 0 0)),(2,some (.p 1 0)),(13,some (.h 2 0)),(14,some (.v (vI ((F101 (words.getD (Int.toNat 0) default)).length:Int)))),(15,some (.v (vI v15)))],[(0,some (.shr none (.l 1 eStr words))),(1,some (.box 93 [.v (.string Zi),.v (vI 0),.v (.slice none 0 0)])),(2,some (.own 2 (.b (.l 3 Mn (F101 (words.getD (Int.toNat 0) default))))))],3⟩:St)) i.2) (Qfv words) (fun i=>i.1) (Qez words) (fun i=>(fun (v15:Int)=>(.seq .no (.seq (.cond .no .no) (.seq (.blk (.seq .no (.seq (.reg [(2,kh102 ((F101 (words.getD (Int.toNat 0) default)).getD v15.toNat default) words)]) (.cond (.seq .no .no) .no)))) (.reg [(0,.bnd)]))))) i.2)))) (.seq .no .no)))) Tryz.func71 (fun (hpre0:∀ k:Nat,(words.getD k default).size<=1048576)=>kn words fun _=>ife (words.length:Int) 0 (fun h1 _=>(fun hF:((⟨Zi,0,[]⟩:form),false)=(F71 words)=>ai (Qt (fun r:form×Bool=>(.string r.1.word:Value)) hF) (ai (Qt (fun r:form×Bool=>(.int .i64 r.1.key:Value)) hF) (ai (Qt (fun r:form×Bool=>(.bool r.2:Value)) hF) trivial))) (condT h1 rfl)) (fun h1 _=>ai (uu0:ib 0 words) (kc101 (words.getD (Int.toNat 0) default) (fun gv2=>kn words fun _=>kn (F101 (words.getD (Int.toNat 0) default)) fun _=>ai (en71_0 words uu0) (fun (i0:Nat×Int) (hi0:Qfv words i0)=>(fun (m0:Nat) (v15:Int) (hh0:Uie words i0 m0 v15)=>have hI0:=hh0.1; have hl0:=hh0.2.1; have _:=hh0.2.2.1; have _:=hh0.2.2.2; ifd (v15<((F101 (words.getD (Int.toNat 0) default)).length:Int)) (fun h4 _=>ai (uu0:ib v15 (F101 (words.getD (Int.toNat 0) default))) (kc102 ((F101 (words.getD (Int.toNat 0) default)).getD v15.toNat default) words (by exact gv2 _) uu6 (ifb (F102 ((F101 (words.getD (Int.toNat 0) default)).getD v15.toNat default) words) (fun h5=>(fun hF:(((F101 (words.getD (Int.toNat 0) default)).getD v15.toNat default),true)=(F71 words)=>ai (Qt (fun r:form×Bool=>(.string r.1.word:Value)) hF) (ai (Qt (fun r:form×Bool=>(.int .i64 r.1.key:Value)) hF) (ai (Qt (fun r:form×Bool=>(.bool r.2:Value)) hF) trivial))) (condF h1 (finR (Um hI0 (condT h4 (condT h5 rfl))) rfl))) (fun h5=>ai (iok (v15+1) uu0) (bk71_0 words i0 m0 (v15+1) hl0 (Ud hI0 (condT h4 (condF h5 rfl))) uu5))))) (fun h4 _=>have hD0_6:Ubx words=Lp.done v15:=Uh hI0 (condF h4 rfl); (fun hF:((⟨Zi,0,[]⟩:form),false)=(F71 words)=>ai (Qt (fun r:form×Bool=>(.string r.1.word:Value)) hF) (ai (Qt (fun r:form×Bool=>(.int .i64 r.1.key:Value)) hF) (ai (Qt (fun r:form×Bool=>(.bool r.2:Value)) hF) trivial))) (condF h1 (finD hD0_6 rfl)))) (i0.1-1) i0.2 (un71_0 words i0 hi0)))))) uu1
theorem Qkd {α ρ τ:Type} [Inhabited α] (xs:List α) (p:α->Bool) (g:α->ρ) (st:Int->Lp Int ρ) (f:ρ->τ) (k:Int->τ) (y:τ) (hk:∀ i,k i=y)
  (h1:∀ i:Nat,i<xs.length->st (i:Int)=bif p (xs.getD i default) then .ret (g (xs.getD i default)) else .next ((i+1:Nat):Int)) (h2:st (xs.length:Int)=.done (xs.length:Int)) :
  ∀ (m i:Nat),i+m=xs.length->∀ fuel,m<fuel->(runL st fuel (i:Int)).fin f k=match (xs.drop i).find? p with | some a=>f (g a) | none=>y
 | m,i,_,0,hf=>absurd hf (Sq _)
 | 0,i,h,fuel+1,hf=>by
  have e:i=xs.length:=by omega
  subst e
  rw [Vb _ h2,Q7 (Qq _)]
  exact hk _
 | m+1,i,h,fuel+1,hf=>by
  have hst:=h1 i uu0
  have hd:xs.drop i=xs.getD i default :: xs.drop (i+1):=by
   rw [Rg (show i<xs.length by omega),Qd,Qh (show i<xs.length by omega)]; rfl
  rw [hd,List.find?_cons]
  cases hp:p (xs.getD i default) with
  | true=>rw [hp,Qc] at hst; rw [Wm _ hst]; rfl
  | false =>
   rw [hp,Qe] at hst
   rw [Kc _ hst,Qkd xs p g st f k y hk h1 h2 m (i+1) uu0 fuel uu0]
def chk:List (Za->Bool)->Nat->List Za->Bool
 | [],_,_=>true
 | c :: cs,i,w=>c (w.getD i default)&&chk cs (i+1) w
theorem Qop (cs:List (Za->Bool)) (w:List Za):∀ (m i:Nat),i+m=cs.length->anyF (fun k=>!(cs.getD k default) (w.getD (k+1) default)) i m=!chk (cs.drop i) (i+1) w
 | 0,i,h=>by rw [Q7 uu0]; rfl
 | m+1,i,h=>by
  have hd:cs.drop i=cs.getD i default :: cs.drop (i+1):=by
   rw [Rg (show i<cs.length by omega),Qd,Qh (show i<cs.length by omega)]; rfl
  rw [hd]
  simp only [anyF,chk,Bool.not_and]
  rw [Qop cs w m (i+1) uu0]
theorem Vk (f:form) (w:List Za):F102 f w=(decide (w.length=f.checks.length+1)&&chk f.checks 1 w):=by
 unfold F102
 by_cases h:w.length=f.checks.length+1
 ·have h1:((w.length:Int) != ((f.checks.length:Int)+1))=false:=by
   rw [bne_eq_false_iff_eq]; omega
  rw [h1,Qe,Qs h,Sc]
  have:=Kg (Xi f w) f.checks.length (fun k=>!(f.checks.getD k default) (w.getD (k+1) default)) false (fun r=>r) true (fun i hi=>by
   simp only [Xi,Qs (show (i:Int)<(f.checks.length:Int) by omega),Qc,Rk]
   rw [show ((i:Int)+1).toNat=i+1 by omega]
   cases (!(f.checks.getD i default) (w.getD (i+1) default)) <;> rfl) (by
   simp only [Xi,Qk (show ¬ (f.checks.length:Int)<(f.checks.length:Int) by omega),Qe])
  have h2:=this f.checks.length 0 uu0 (Int.toNat ((f.checks.length:Int)-0)+1) uu0
  rw [Qop f.checks w f.checks.length 0 uu0,Rm] at h2
  refine h2.trans ?_
  cases chk f.checks (0+1) w <;> rfl
 ·have h1:((w.length:Int) != ((f.checks.length:Int)+1))=true:=by
   rw [Gw]; omega
  rw [h1,Qc,Qk h,Sr]
theorem Qbo (w:List Za) (hw:w.length≠0):F71 w=match (F101 (w.getD 0 default)).find? (fun f=>F102 f w) with | some f=>(f,true) | none=>((⟨Zi,0,[]⟩:form),false):=by
 unfold F71
 have h1:((w.length:Int)==0)=false:=by rw [Qz]; omega
 rw [h1,Qe]
 have h0:w.getD (Int.toNat 0) default=w.getD 0 default:=rfl
 simp only [h0]
 generalize hx:F101 (w.getD 0 default)=xs
 have:=Qkd xs (fun f=>F102 f w) (fun f=>(f,true)) (Lf w) (fun r=>r) (fun _=>((⟨Zi,0,[]⟩:form),false)) _ (fun _=>rfl) (fun i hi=>by
  simp only [Lf,h0,hx,Qs (show (i:Int)<(xs.length:Int) by omega),Qc,Rk]
  cases F102 (xs.getD i default) w <;> rfl) (by
  simp only [Lf,h0,hx,Qk (show ¬ (xs.length:Int)<(xs.length:Int) by omega),Qe]) xs.length 0 uu0 (Int.toNat ((xs.length:Int)-0)+1) uu0
 rw [Rm] at this
 refine Eq.trans this ?_
 cases xs.find? (fun f=>F102 f w) <;> rfl
theorem Wr (l:List UInt8) (x:Za) (h:x.data.toList=l):F101 x=all101.filter (fun z=>z.word.data.toList==l):=by
 unfold F101
 congr 1
 funext z
 rw [Yd,Yd,h]
def keyN (l:List UInt8):Int :=
 if l=[104,111,115,116] then 1 else if l=[117,115,101,114] then 2 else if l=[112,111,114,116] then 2 else if l=[114,117,108,101] then 3 else if l=[114,111,117,116,101] then 3 else if l=[112,101,101,114] then 2 else if l=[110,97,116] then 1 else 3
theorem Jr (x a:Za):F182 x [a]=(x.toList==a.toList):=by
 unfold F182
 rw [Nc,Th,List.any_nil,Bool.or_false]
theorem Wn (x a b:Za):F182 x [a,b]=bif (x.toList==a.toList) then true else (x.toList==b.toList):=by
 unfold F182
 rw [Nc,Th,Th,List.any_nil,Bool.or_false]
 cases (x.toList==a.toList) <;> rfl
theorem Ju (x:Za) (lo hi:Int):F181 x lo hi=decide (lo<=F194 x/\F194 x<=hi):=by
 unfold F181
 rw [Qcx]
theorem Jn (w:List Za) (n:Nat):((w.length:Int)==(n:Int))=decide (w.length=n):=by
 by_cases h:w.length=n
 ·rw [Qs h,Sy]; omega
 ·rw [Qk h,Qz]; omega
theorem Vv (w:List Za) (f:form) (hw:w.length≠0) (h:F101 (w.getD 0 default)=[f]):(F71 w).2=F102 f w/\((F71 w).2=true->(F71 w).1.key=f.key):=by
 rw [Qbo w hw,h,List.find?_cons,List.find?_nil]
 cases F102 f w <;> exact ⟨rfl,fun h=>by first | rfl | cases h⟩
theorem Ubl (w:List Za) (f g:form) (hw:w.length≠0) (h:F101 (w.getD 0 default)=[f,g]) (hk:f.key=g.key):(F71 w).2=(F102 f w || F102 g w)/\((F71 w).2=true->(F71 w).1.key=f.key):=by
 rw [Qbo w hw,h,List.find?_cons,List.find?_cons,List.find?_nil]
 cases F102 f w <;> cases F102 g w <;> exact ⟨rfl,fun h=>by first | rfl | exact hk.symm | cases h⟩
theorem Ual (w:List Za) (hw:w.length≠0) (h:F101 (w.getD 0 default)=[]):(F71 w).2=false:=by
 rw [Qbo w hw,h]; rfl
theorem blit (x:Za) (a:Array UInt8):(x.toList==(⟨a⟩:Za).toList)=(x.data.toList==a.toList):=by rw [Yd,Yd]
theorem hd00:(([104,111,115,116]:List UInt8)==([104,111,115,116]:List UInt8))=true:=by decide
theorem hd10:(([117,115,101,114]:List UInt8)==([104,111,115,116]:List UInt8))=false:=by decide
theorem hd11:(([117,115,101,114]:List UInt8)==([117,115,101,114]:List UInt8))=true:=by decide
theorem hd20:(([112,111,114,116]:List UInt8)==([104,111,115,116]:List UInt8))=false:=by decide
theorem hd21:(([112,111,114,116]:List UInt8)==([117,115,101,114]:List UInt8))=false:=by decide
theorem hd22:(([112,111,114,116]:List UInt8)==([112,111,114,116]:List UInt8))=true:=by decide
theorem hd30:(([114,117,108,101]:List UInt8)==([104,111,115,116]:List UInt8))=false:=by decide
theorem hd31:(([114,117,108,101]:List UInt8)==([117,115,101,114]:List UInt8))=false:=by decide
theorem hd32:(([114,117,108,101]:List UInt8)==([112,111,114,116]:List UInt8))=false:=by decide
theorem hd33:(([114,117,108,101]:List UInt8)==([114,117,108,101]:List UInt8))=true:=by decide
theorem hd40:(([114,111,117,116,101]:List UInt8)==([104,111,115,116]:List UInt8))=false:=by decide
theorem hd41:(([114,111,117,116,101]:List UInt8)==([117,115,101,114]:List UInt8))=false:=by decide
theorem hd42:(([114,111,117,116,101]:List UInt8)==([112,111,114,116]:List UInt8))=false:=by decide
theorem hd43:(([114,111,117,116,101]:List UInt8)==([114,117,108,101]:List UInt8))=false:=by decide
theorem hd44:(([114,111,117,116,101]:List UInt8)==([114,111,117,116,101]:List UInt8))=true:=by decide
theorem hd50:(([112,101,101,114]:List UInt8)==([104,111,115,116]:List UInt8))=false:=by decide
theorem hd51:(([112,101,101,114]:List UInt8)==([117,115,101,114]:List UInt8))=false:=by decide
theorem hd52:(([112,101,101,114]:List UInt8)==([112,111,114,116]:List UInt8))=false:=by decide
theorem hd53:(([112,101,101,114]:List UInt8)==([114,117,108,101]:List UInt8))=false:=by decide
theorem hd54:(([112,101,101,114]:List UInt8)==([114,111,117,116,101]:List UInt8))=false:=by decide
theorem hd55:(([112,101,101,114]:List UInt8)==([112,101,101,114]:List UInt8))=true:=by decide
theorem hd60:(([110,97,116]:List UInt8)==([104,111,115,116]:List UInt8))=false:=by decide
theorem hd61:(([110,97,116]:List UInt8)==([117,115,101,114]:List UInt8))=false:=by decide
theorem hd62:(([110,97,116]:List UInt8)==([112,111,114,116]:List UInt8))=false:=by decide
theorem hd63:(([110,97,116]:List UInt8)==([114,117,108,101]:List UInt8))=false:=by decide
theorem hd64:(([110,97,116]:List UInt8)==([114,111,117,116,101]:List UInt8))=false:=by decide
theorem hd65:(([110,97,116]:List UInt8)==([112,101,101,114]:List UInt8))=false:=by decide
theorem hd66:(([110,97,116]:List UInt8)==([110,97,116]:List UInt8))=true:=by decide
theorem hd70:(([100,111,111,114]:List UInt8)==([104,111,115,116]:List UInt8))=false:=by decide
theorem hd71:(([100,111,111,114]:List UInt8)==([117,115,101,114]:List UInt8))=false:=by decide
theorem hd72:(([100,111,111,114]:List UInt8)==([112,111,114,116]:List UInt8))=false:=by decide
theorem hd73:(([100,111,111,114]:List UInt8)==([114,117,108,101]:List UInt8))=false:=by decide
theorem hd74:(([100,111,111,114]:List UInt8)==([114,111,117,116,101]:List UInt8))=false:=by decide
theorem hd75:(([100,111,111,114]:List UInt8)==([112,101,101,114]:List UInt8))=false:=by decide
theorem hd76:(([100,111,111,114]:List UInt8)==([110,97,116]:List UInt8))=false:=by decide
theorem hd77:(([100,111,111,114]:List UInt8)==([100,111,111,114]:List UInt8))=true:=by decide
theorem cb1 (a b:Bool):(bif a then b else false)=(a&&b):=by cases a <;> rfl
theorem cb2 (a b:Bool):(bif a then true else b)=(a || b):=by cases a <;> rfl
theorem Qjc (w:List Za):(F71 w).2=F173 w/\((F71 w).2=true->(F71 w).1.key=keyN (w.getD 0 default).data.toList):=by
 by_cases hw:w.length=0
 ·obtain rfl:=Rx hw
  exact ⟨rfl,fun h=>by cases h⟩
 have h0:((w.length:Int)==0)=false:=by rw [Qz]; omega
 have t0:∀ k:Nat,w.getD (k:Int).toNat default=w.getD k default:=fun _=>rfl
 have e0:w.getD (Int.toNat 0) default=w.getD 0 default:=rfl
 have e1:w.getD (Int.toNat 1) default=w.getD 1 default:=rfl
 have e2:w.getD (Int.toNat 2) default=w.getD 2 default:=rfl
 have e3:w.getD (Int.toNat 3) default=w.getD 3 default:=rfl
 have e4:w.getD (Int.toNat 4) default=w.getD 4 default:=rfl
 have e5:w.getD (Int.toNat 5) default=w.getD 5 default:=rfl
 have e6:w.getD (Int.toNat 6) default=w.getD 6 default:=rfl
 have n2:=Jn w 2
 have n3:=Jn w 3
 have n4:=Jn w 4
 have n5:=Jn w 5
 have n7:=Jn w 7
 simp only [Int.cast_ofNat_Int] at n2 n3 n4 n5 n7
 have hb:∀ l:List UInt8,(w.getD 0 default).data.toList=l->(w.getD 0 default).toList=l:=fun l h=>by rw [Yd,h]
 have hlit:∀ l:List UInt8,(⟨l.toArray⟩:Za).toList=l:=fun l=>by rw [Yd]
 unfold F173
 simp only [h0,Qe,e0,e1,e2,e3,e4,e5,e6,n2,n3,n4,n5,n7]
 rcases Rn ((w.getD 0 default).data.toList=[104,111,115,116]) with h | hn0
 ·have hF:=(Wr _ _ h).trans (show _=[all101.getD 0 default] from rfl)
  have f0:F102 (all101.getD 0 default) w=(decide (w.length=2)&&(F88 (w.getD 1 default)&&true)):=Vk _ _
  obtain ⟨k1,k2⟩:=Vv w _ hw hF
  refine ⟨?_,fun hh=>(k2 hh).trans uu23⟩
  rw [k1,f0]
  simp only [blit,h,hd00,Qc,Qe,Wf,Yy,Zv,Kn,Ju,Jr,Wn,cb1,cb2,R7,Sz]
 rcases Rn ((w.getD 0 default).data.toList=[117,115,101,114]) with h | hn1
 ·have hF:=(Wr _ _ h).trans (show _=[all101.getD 1 default] from rfl)
  have f0:F102 (all101.getD 1 default) w=(decide (w.length=3)&&(F88 (w.getD 1 default)&&(F138 (w.getD 2 default)&&true))):=Vk _ _
  obtain ⟨k1,k2⟩:=Vv w _ hw hF
  refine ⟨?_,fun hh=>(k2 hh).trans uu23⟩
  rw [k1,f0]
  simp only [blit,h,hd10,hd11,Qc,Qe,Wf,Yy,Zv,Kn,Ju,Jr,Wn,cb1,cb2,R7,Sz]
 rcases Rn ((w.getD 0 default).data.toList=[112,111,114,116]) with h | hn2
 ·have hF:=(Wr _ _ h).trans (show _=[all101.getD 2 default,all101.getD 3 default] from rfl)
  have f0:F102 (all101.getD 2 default) w=(decide (w.length=3)&&(F181 (w.getD 1 default) 0 7&&(F139 (w.getD 2 default)&&true))):=Vk _ _
  have f1:F102 (all101.getD 3 default) w=(decide (w.length=5)&&(F181 (w.getD 1 default) 0 7&&(F139 (w.getD 2 default)&&(F182 (w.getD 3 default) [Zn]&&(F88 (w.getD 4 default)&&true))))):=Vk _ _
  obtain ⟨k1,k2⟩:=Ubl w _ _ hw hF rfl
  refine ⟨?_,fun hh=>(k2 hh).trans uu23⟩
  rw [k1,f0,f1]
  simp only [blit,h,hd20,hd21,hd22,Qc,Qe,Wf,Yy,Zv,Kn,Ju,Jr,Wn,cb1,cb2,R7,Sz]
  generalize decide (w.length=3)=a,decide (w.length=5)=b,decide (0<=F194 (w.getD 1 default)/\F194 (w.getD 1 default)<=7)=c,F202 (w.getD 2 default)=d,((w.getD 3 default).data.toList==[105,110])=e,F28 (w.getD 4 default)=g
  cases a <;> cases b <;> cases c <;> cases d <;> cases e <;> cases g <;> rfl
 rcases Rn ((w.getD 0 default).data.toList=[114,117,108,101]) with h | hn3
 ·have hF:=(Wr _ _ h).trans (show _=[all101.getD 4 default] from rfl)
  have f0:F102 (all101.getD 4 default) w=(decide (w.length=7)&&(F88 (w.getD 1 default)&&(F181 (w.getD 2 default) 0 99&&(F182 (w.getD 3 default) [Zo,Zp]&&(F139 (w.getD 4 default)&&(F139 (w.getD 5 default)&&(F181 (w.getD 6 default) 0 7&&true))))))):=Vk _ _
  obtain ⟨k1,k2⟩:=Vv w _ hw hF
  refine ⟨?_,fun hh=>(k2 hh).trans uu23⟩
  rw [k1,f0]
  simp only [blit,h,hd30,hd31,hd32,hd33,Qc,Qe,Wf,Yy,Zv,Kn,Ju,Jr,Wn,cb1,cb2,R7,Sz]
 rcases Rn ((w.getD 0 default).data.toList=[114,111,117,116,101]) with h | hn4
 ·have hF:=(Wr _ _ h).trans (show _=[all101.getD 5 default] from rfl)
  have f0:F102 (all101.getD 5 default) w=(decide (w.length=3)&&(F139 (w.getD 1 default)&&(F141 (w.getD 2 default)&&true))):=Vk _ _
  obtain ⟨k1,k2⟩:=Vv w _ hw hF
  refine ⟨?_,fun hh=>(k2 hh).trans uu23⟩
  rw [k1,f0]
  simp only [blit,h,hd40,hd41,hd42,hd43,hd44,Qc,Qe,Wf,Yy,Zv,Kn,Ju,Jr,Wn,cb1,cb2,R7,Sz]
 rcases Rn ((w.getD 0 default).data.toList=[112,101,101,114]) with h | hn5
 ·have hF:=(Wr _ _ h).trans (show _=[all101.getD 6 default] from rfl)
  have f0:F102 (all101.getD 6 default) w=(decide (w.length=4)&&(F141 (w.getD 1 default)&&(F181 (w.getD 2 default) 1 9&&(F181 (w.getD 3 default) 1 999999&&true)))):=Vk _ _
  obtain ⟨k1,k2⟩:=Vv w _ hw hF
  refine ⟨?_,fun hh=>(k2 hh).trans uu23⟩
  rw [k1,f0]
  simp only [blit,h,hd50,hd51,hd52,hd53,hd54,hd55,Qc,Qe,Wf,Yy,Zv,Kn,Ju,Jr,Wn,cb1,cb2,R7,Sz]
 rcases Rn ((w.getD 0 default).data.toList=[110,97,116]) with h | hn6
 ·have hF:=(Wr _ _ h).trans (show _=[all101.getD 7 default] from rfl)
  have f0:F102 (all101.getD 7 default) w=(decide (w.length=5)&&(F139 (w.getD 1 default)&&(F141 (w.getD 2 default)&&(F181 (w.getD 3 default) 1 65535&&(F181 (w.getD 4 default) 1 65535&&true))))):=Vk _ _
  obtain ⟨k1,k2⟩:=Vv w _ hw hF
  refine ⟨?_,fun hh=>(k2 hh).trans uu23⟩
  rw [k1,f0]
  simp only [blit,h,hd60,hd61,hd62,hd63,hd64,hd65,hd66,Qc,Qe,Wf,Yy,Zv,Kn,Ju,Jr,Wn,cb1,cb2,R7,Sz]
 rcases Rn ((w.getD 0 default).data.toList=[100,111,111,114]) with h | hn7
 ·have hF:=(Wr _ _ h).trans (show _=[all101.getD 8 default] from rfl)
  have f0:F102 (all101.getD 8 default) w=(decide (w.length=5)&&(F181 (w.getD 1 default) 1 7&&(F181 (w.getD 2 default) 1 65535&&(F141 (w.getD 3 default)&&(F181 (w.getD 4 default) 1 65535&&true))))):=Vk _ _
  obtain ⟨k1,k2⟩:=Vv w _ hw hF
  refine ⟨?_,fun hh=>(k2 hh).trans uu23⟩
  rw [k1,f0]
  simp only [blit,h,hd70,hd71,hd72,hd73,hd74,hd75,hd76,hd77,Qc,Qe,Wf,Yy,Zv,Kn,Ju,Jr,Wn,cb1,cb2,R7,Sz]
 have hF:F101 (w.getD 0 default)=[]:=by
  rw [Wr _ _ rfl,List.filter_eq_nil_iff]
  intro z hz
  simp only [all101,Qu,Rv,G4] at hz
  rcases hz with rfl | rfl | rfl | rfl | rfl | rfl | rfl | rfl | rfl
  ·exact fun e=>hn0 (eq_of_beq e).symm
  ·exact fun e=>hn1 (eq_of_beq e).symm
  ·exact fun e=>hn2 (eq_of_beq e).symm
  ·exact fun e=>hn2 (eq_of_beq e).symm
  ·exact fun e=>hn3 (eq_of_beq e).symm
  ·exact fun e=>hn4 (eq_of_beq e).symm
  ·exact fun e=>hn5 (eq_of_beq e).symm
  ·exact fun e=>hn6 (eq_of_beq e).symm
  ·exact fun e=>hn7 (eq_of_beq e).symm
 rw [Ual w hw hF]
 refine ⟨?_,fun h=>by cases h⟩
 simp only [blit,Qz.2 hn0,Qz.2 hn1,Qz.2 hn2,Qz.2 hn3,Qz.2 hn4,Qz.2 hn5,Qz.2 hn6,Qz.2 hn7,Qe]
theorem Qrt (l:List UInt8) (k:Nat):((Xm l).1.getD k default).size<=24:=by
 unfold Xm fitW
 rw [Qd]
 cases h:((l.all okB)&&(decide ((Yh l).length<=8)&&(Yh l).all fun w=>decide (w.length<=24))) with
 | false=>rw [Qe]; exact Qy _
 | true =>
  rw [Qc]
  simp only [Qo] at h
  have h2:=Rc.1 h.2.2
  show ((((Yh l).map mkB)[k]?).getD default).size<=24
  rw [Tj]
  cases hk:(Yh l)[k]? with
  | none=>exact Qy _
  | some w=>exact Qb (h2 w (Q9 hk))
theorem Qrc (line:Za) (k:Nat):((F133 line).1.getD k default).size<=24:=by
 rw [Nm]; exact Qrt _ k
theorem Qnw (line:Za):∀ k:Nat,((F133 line).1.getD k default).size<=1048576:=fun k=>Q5 (Qrc line k) uu2
theorem Mr (line:Za):(F64 line).1.length<=8:=by rw [<- Nq]; exact Qiw line
theorem Vj (line:Za):∀ k:Nat,((F64 line).1.getD k default).size<=1048576:=by rw [<- Nq]; exact Qnw line
theorem Pn (sep:List UInt8) (m:Nat):∀ xs:List (List UInt8),(∀ x∈xs,x.length<=m)->(Lib.joinTail sep xs).length<=xs.length*(m+sep.length)
 | [],_=>by simp [Lib.joinTail]
 | x :: xs,h=>by
  have h1:=Pn sep m xs fun y hy=>h y (Qi _ hy)
  have h2:=h x Ql
  have e:Lib.joinTail sep (x :: xs)=(sep++x)++Lib.joinTail sep xs:=rfl
  rw [e]
  simp only [Ri,Q4,R0]
  omega
theorem Ukw (ws:List Za) (sep:Za) (m:Nat) (h:∀ k:Nat,(ws.getD k default).size<=m):(Ku ws sep).size<=ws.length*(m+sep.size):=by
 have hx:∀ x∈ws.map (·.data.toList),x.length<=m:=by
  intro x hx
  obtain ⟨w,hw,rfl⟩:=Si.1 hx
  obtain ⟨k,hk⟩:=S8.1 hw
  have:=h k
  rw [Qd,hk] at this
  exact this
 have e:(Ku ws sep).size=(Lib.join (ws.map (·.data.toList)) sep.data.toList).length:=by simp [Ku,ByteArray.size]
 have es:sep.data.toList.length=sep.size:=rfl
 rw [e]
 cases ws with
 | nil=>simp [Lib.join]
 | cons a t =>
  rw [Rb,Lib.join_cons,Ri,Q4,R0]
  have h1:=Pn sep.data.toList m (t.map (·.data.toList)) fun y hy=>hx y (by rw [Rb]; exact Qi _ hy)
  have h2:=hx a.data.toList (by rw [Rb]; exact Ql)
  rw [Sk,es] at h1
  omega
theorem Qfe (ws:List Za) (sep:Za) (h:∀ k:Nat,(ws.getD k default).size<=1048576) (hl:ws.length<=8) (hs:sep.size<=1):(Ku ws sep).size<=140737488355328:=by
 have h1:=Ukw ws sep 1048576 h
 have h2:=Nat.mul_le_mul hl (show 1048576+sep.size<=1048577 by omega)
 omega
def F72 (elems:List Za) (sep:Za):Za :=
 Ku elems sep
def S72 (elems:List Za) (sep:Za):Spec:=⟨[.r (.c (.l 1 eStr elems)),.r (.c (.v (.string sep)))],.v (.string (F72 elems sep)),elems.length<=140737488355328/\(Ku elems sep).size<=140737488355328⟩
theorem ok72 (elems:List Za) (sep:Za):(S72 elems sep).ok Tryz.prog 72 false :=
 Umw Uli Ubz elems sep
theorem kc133 (line:Za) {K_:Prop} (p0_:line.size<=1048576) (k_:((F133 line).1.length<=8)->(∀ k:Nat,((F133 line).1.getD k default).size<=1048576)->K_):(line.size<=1048576)/\(Imp (.v (.string line)) (.v (.string line)))/\K_:=⟨p0_,Imp.refl _,k_ (Qiw line) (Qnw line)⟩
abbrev kh133 (line:Za):Hint false Tryz.prog:=.call 133 (S133 line) (ok133 line) none
theorem kc71 (words:List Za) {K_:Prop} (p0_:∀ k:Nat,(words.getD k default).size<=1048576) (k_:K_):(∀ k:Nat,(words.getD k default).size<=1048576)/\(Imp (.l 1 eStr words) (.l 1 eStr words))/\K_:=⟨p0_,Imp.refl _,k_⟩
abbrev kh71 (words:List Za):Hint false Tryz.prog:=.call 71 (S71 words) (ok71 words) none
theorem kc72 (elems:List Za) (sep:Za) {K_:Prop} (p0_:elems.length<=140737488355328) (p1_:(Ku elems sep).size<=140737488355328) (k_:K_):(elems.length<=140737488355328/\(Ku elems sep).size<=140737488355328)/\(Imp (.l 1 eStr elems) (.l 1 eStr elems))/\(Imp (.v (.string sep)) (.v (.string sep)))/\K_:=⟨⟨p0_,p1_⟩,Imp.refl _,Imp.refl _,k_⟩
abbrev kh72 (elems:List Za) (sep:Za):Hint false Tryz.prog:=.call 72 (S72 elems sep) (ok72 elems sep) none
def F99 (line:Za):Za×Bool :=
 bif (!(F133 line).2) then (Zi,false) else (bif (!(F71 (F133 line).1).2) then (Zi,false) else ((F72 (F133 line).1 Ze),true))
theorem fi99 (line:Za) (r:Za×Bool) (hF:r=(F99 line)):((.string r.1:Value)=.string (F99 line).1)/\((.bool r.2:Value)=.bool (F99 line).2)/\True:=by cases hF; exact ⟨rfl,rfl,trivial⟩
def S99 (line:Za):Spec:=⟨[.r (.c (.v (.string line)))],.tu [.v (.string (F99 line).1),.v (.bool (F99 line).2)],line.size<=1048576⟩
theorem ok99 (line:Za):(S99 line).ok Tryz.prog 99 false :=
 Ue mixed (fn:=Tryz.f99) (ct:=.seq .no (.seq (.reg [(1,kh133 line)]) (.seq (.seq .no (.cond (.seq .no .no) .no)) (.seq (.seq (.reg [(1,kh71 (F133 line).1)]) (.seq .no (.cond (.seq .no .no) .no))) (.seq (.reg [(1,kh72 (F133 line).1 Ze)]) .no))))) Tryz.func99 (fun (hpre0:line.size<=1048576)=>kc133 line uu0 (fun gv1 gv2=>ifb (!(F133 line).2) (fun h3=>have _:=(Yq h3); fi99 line (Zi,false) (condT h3 rfl)) (fun h3=>have _:=(Uw h3); kc71 (F133 line).1 uu57 (ifb (!(F71 (F133 line).1).2) (fun h4=>have _:=(Yq h4); fi99 line (Zi,false) (condF h3 (condT h4 rfl))) (fun h4=>have _:=(Uw h4); kc72 (F133 line).1 Ze uu58 uu58 (fi99 line ((F72 (F133 line).1 Ze),true) (condF h3 (condF h4 rfl)))))))) uu1
theorem kc64 (line:Za) {K_:Prop} (p0_:line.size<=1048576) (k_:((F64 line).1.length<=8)->(∀ k:Nat,((F64 line).1.getD k default).size<=1048576)->K_):(line.size<=1048576)/\(Imp (.v (.string line)) (.v (.string line)))/\K_:=⟨p0_,Imp.refl _,k_ (Mr line) (Vj line)⟩
abbrev kh64 (line:Za):Hint true Tryz.prog:=.call 64 (S64 line) (ok64 line) none
theorem kg173 {K_:Prop} (c_ b_:Bool) (w1:List Za) (p_:c_=b_->(∀ k:Nat,(w1.getD k default).size<=1048576)) (k_:K_):(c_=b_->(∀ k:Nat,(w1.getD k default).size<=1048576))/\(c_=b_->Imp (.l 1 eStr w1) (.l 1 eStr w1))/\K_:=⟨p_,fun _=>Imp.refl _,k_⟩
abbrev kh173 (w1:List Za):Hint true Tryz.prog:=.call 173 (S173 w1) (ok173 w1) none
theorem kc174 (list:List Za) (with':Za) {K_:Prop} (p0_:list.length<=8) (p1_:∀ k:Nat,(list.getD k default).size<=1048576) (p2_:with'.size<=1) (k_:K_):(list.length<=8/\(∀ k:Nat,(list.getD k default).size<=1048576)/\with'.size<=1)/\(Imp (.l 1 eStr list) (.l 1 eStr list))/\(Imp (.v (.string with')) (.v (.string with')))/\K_:=⟨⟨p0_,p1_,p2_⟩,Imp.refl _,Imp.refl _,k_⟩
abbrev kh174 (list:List Za) (with':Za):Hint true Tryz.prog:=.call 174 (S174 list with') (ok174 list with') none
def F132 (line:Za):Za×Bool :=
 bif (bif (!(F64 line).2) then true else (!(F173 (F64 line).1))) then (Zi,false) else ((F174 (F64 line).1 Ze),true)
theorem fi132 (line:Za) (r:Za×Bool) (hF:r=(F132 line)):((.string r.1:Value)=.string (F132 line).1)/\((.bool r.2:Value)=.bool (F132 line).2)/\True:=by cases hF; exact ⟨rfl,rfl,trivial⟩
def S132 (line:Za):Spec:=⟨[.r (.c (.v (.string line)))],.tu [.v (.string (F132 line).1),.v (.bool (F132 line).2)],line.size<=1048576⟩
theorem ok132 (line:Za):(S132 line).ok Tryz.prog 132 :=
 Ue mixed (fn:=Tryz.f132) (ct:=.seq .no (.seq (.reg [(1,kh64 line)]) (.seq (.seq (.reg [(4,kh173 (F64 line).1)]) (.cond (.seq .no .no) .no)) (.seq (.reg [(1,kh174 (F64 line).1 Ze)]) .no)))) Tryz.func132 (fun (hpre0:line.size<=1048576)=>kc64 line uu0 (fun gv1 gv2=>kg173 (!(F64 line).2) false (F64 line).1 (fun k3=>have _:=(Uw k3); uu57) (ifb (bif (!(F64 line).2) then true else (!(F173 (F64 line).1))) (fun h4=>fi132 line (Zi,false) (condT h4 rfl)) (fun h4=>have _:=(Uw (orF1 h4)); kc174 (F64 line).1 Ze uu49 uu49 uu49 (fi132 line ((F174 (F64 line).1 Ze),true) (condF h4 rfl)))))) uu1
theorem Qzs (line:Za):F99 line=F132 line:=by
 unfold F99 F132
 rw [Nq,(Qjc _).1,Qct]
 cases (F64 line).2 <;> cases F173 (F64 line).1 <;> rfl
end Go.Proofs.YthjaknclldmheaaGreatDoor
