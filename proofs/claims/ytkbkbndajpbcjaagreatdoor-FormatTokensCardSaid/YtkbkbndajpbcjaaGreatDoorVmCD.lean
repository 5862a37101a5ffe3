/-
  A part of the proof.
-/
import Derived.Shelf.Strings.IndexAnyAll
import Derived.Shelf.Unicode.ValidAny
import Derived.Shelf.Strings.SlTrimAscii
import Derived.KernelRfl
import Derived.Shelf.Strings.Builder1
import Derived.Shelf.Strings.Builder2
import Derived.Shelf.Strings.Trim
import Derived.Shelf.Small.Utf8
import Derived.Shelf.Small.Strs
import Derived.Shelf.Strings.BuilderF
import Derived.Shelf.Utf8.RuneCount
import Derived.Shelf.Strconv.Atoi
import Derived.Shelf.Strconv.AtoiErrFast
import Derived.Shelf.Strconv.ParseIntEmpty
import Derived.Shelf.Strconv.AtoiFail
import Derived.Shelf.LaysM
import Derived.Shelf.Strconv.Clone
import Derived.Shelf.Strconv.SyntaxError
import Derived.Shelf.LaysC
import Derived.Shelf.Strconv.ToError
import Derived.Shelf.Strconv.Lower
import Derived.Shelf.Strconv.ParseUint10
import Derived.Shelf.Strconv.ParseUint10Empty
import Derived.Shelf.Strconv.ParseUint10Any
import Derived.Shelf.Strconv.ParseInt10
import Derived.Shelf.Strconv.AtoiLong
import Derived.Shelf.Strconv.AtoiInnerAll
import Derived.Shelf.Strconv.RangeError
import Derived.Shelf.Strconv.ToErrorRange
import Derived.Shelf.Strconv.AtoiAll
import Derived.Shelf.Strings.Search1
import Derived.Shelf.Strings.Search2
import Derived.Shelf.Strings.Search3
import Derived.Shelf.Strings.Shaped
import Derived.Shelf.Strings.Prefix
import Derived.Shelf.Unicode.Latin
import Derived.Shelf.Strings.Runes
import Derived.Shelf.Strings.RuneCount
import Derived.Shelf.Strings.IndexAny
import Derived.Shelf.Strings.AsciiSet
import Derived.Shelf.Strings.IndexAnyAll
import Derived.Shelf.Bits.Mul64
import Derived.Shelf.Strings.Repeat
import Derived.Shelf.Unicode.DecodeSlow
import Derived.Shelf.Unicode.DecodeAny
import Derived.Shelf.Unicode.Is16White
import Derived.Shelf.Unicode.IsSpaceAny
import Derived.Shelf.Unicode.Is16Any
import Derived.Shelf.Unicode.Is32Any
import Derived.Shelf.Unicode.ExclAny
import Derived.Test.YtkbkbndajpbcjaaGreatDoorProg
namespace Go.Proofs
open Go.Shelf
theorem kT {α:Type} {x:Option α} {a b:α} (h:x=some a) (e:a=b):x=some b:=e ▸ h
open Tryz
def Tryz.laysC172_ren : Go.Shelf.Ren := ⟨fun|172 => 60|244 => 98|245 => 99|247 => 135|279 => 136|280 => 137|281 => 138|282 => 139|287 => 159|316 => 160|171 => 162|205 => 161|321 => 171|322 => 172|243 => 173|246 => 176|283 => 177|284 => 178|285 => 179|286 => 180|129 => 182|317 => 181|318 => 183|319 => 184|320 => 185|337 => 186|338 => 187|n => n, fun|9 => 9|3 => 3|75 => 121|76 => 122|4 => 4|5 => 5|167 => 180|37 => 75|0 => 0|85 => 181|2 => 2|168 => 183|53 => 171|175 => 204|46 => 26|210 => 207|127 => 152|145 => 228|143 => 226|21 => 21|171 => 236|173 => 239|212 => 242|51 => 193|20 => 20|213 => 243|232 => 246|233 => 247|80 => 115|n => n, fun|15 => 5|16 => 6|17 => 7|18 => 8|19 => 9|n => n⟩
theorem Tryz.laysC172:Go.Proofs.LaysC.n172 Tryz.prog Tryz.laysC172_ren:={
 mixed:=by kernel_rfl
 f129:=kT func182 (by kernel_rfl)
 f171:=kT func162 (by kernel_rfl)
 f172:=kT func60 (by kernel_rfl)
 f205:=kT func161 (by kernel_rfl)
 f243:=kT func173 (by kernel_rfl)
 f244:=kT func98 (by kernel_rfl)
 f245:=kT func99 (by kernel_rfl)
 f246:=kT func176 (by kernel_rfl)
 f247:=kT func135 (by kernel_rfl)
 f279:=kT func136 (by kernel_rfl)
 f280:=kT func137 (by kernel_rfl)
 f281:=kT func138 (by kernel_rfl)
 f282:=kT func139 (by kernel_rfl)
 f283:=kT func177 (by kernel_rfl)
 f284:=kT func178 (by kernel_rfl)
 f285:=kT func179 (by kernel_rfl)
 f286:=kT func180 (by kernel_rfl)
 f287:=kT func159 (by kernel_rfl)
 f316:=kT func160 (by kernel_rfl)
 f317:=kT func181 (by kernel_rfl)
 f318:=kT func183 (by kernel_rfl)
 f319:=kT func184 (by kernel_rfl)
 f320:=kT func185 (by kernel_rfl)
 f321:=kT func171 (by kernel_rfl)
 f322:=kT func172 (by kernel_rfl)
 f337:=kT func186 (by kernel_rfl)
 f338:=kT func187 (by kernel_rfl)
 t0:=underlying0
 a0:=isAgg0
 z0:=sizeOf0
 v0:=zeroValue0
 t2:=underlying2
 a2:=isAgg2
 z2:=sizeOf2
 v2:=zeroValue2
 t3:=underlying3
 a3:=isAgg3
 z3:=sizeOf3
 v3:=zeroValue3
 t4:=underlying4
 a4:=isAgg4
 z4:=sizeOf4
 v4:=zeroValue4
 t5:=underlying5
 a5:=isAgg5
 z5:=sizeOf5
 v5:=zeroValue5
 t9:=underlying9
 a9:=isAgg9
 z9:=sizeOf9
 v9:=zeroValue9
 t20:=underlying20
 a20:=isAgg20
 z20:=sizeOf20
 v20:=zeroValue20
 t21:=underlying21
 a21:=isAgg21
 z21:=sizeOf21
 v21:=zeroValue21
 t37:=underlying75
 a37:=isAgg75
 z37:=sizeOf75
 v37:=zeroValue75
 t46:=underlying26
 a46:=isAgg26
 z46:=sizeOf26
 v46:=zeroValue26
 t51:=underlying193
 a51:=isAgg193
 z51:=sizeOf193
 v51:=zeroValue193
 t53:=underlying171
 a53:=isAgg171
 z53:=sizeOf171
 v53:=zeroValue171
 t75:=underlying121
 a75:=isAgg121
 z75:=sizeOf121
 v75:=zeroValue121
 t76:=underlying122
 a76:=isAgg122
 z76:=sizeOf122
 v76:=zeroValue122
 t85:=underlying181
 a85:=isAgg181
 z85:=sizeOf181
 v85:=zeroValue181
 t127:=underlying152
 a127:=isAgg152
 z127:=sizeOf152
 v127:=zeroValue152
 t143:=underlying226
 a143:=isAgg226
 z143:=sizeOf226
 v143:=zeroValue226
 t145:=underlying228
 a145:=isAgg228
 z145:=sizeOf228
 v145:=zeroValue228
 t167:=underlying180
 a167:=isAgg180
 z167:=sizeOf180
 v167:=zeroValue180
 t168:=underlying183
 a168:=isAgg183
 z168:=sizeOf183
 v168:=zeroValue183
 t171:=underlying236
 a171:=isAgg236
 z171:=sizeOf236
 v171:=zeroValue236
 t173:=underlying239
 a173:=isAgg239
 z173:=sizeOf239
 v173:=zeroValue239
 t175:=underlying204
 a175:=isAgg204
 z175:=sizeOf204
 v175:=zeroValue204
 t210:=underlying207
 a210:=isAgg207
 z210:=sizeOf207
 v210:=zeroValue207
 t212:=underlying242
 a212:=isAgg242
 z212:=sizeOf242
 v212:=zeroValue242
 t213:=underlying243
 a213:=isAgg243
 z213:=sizeOf243
 t232:=underlying246
 a232:=isAgg246
 z232:=sizeOf246
 v232:=zeroValue246
 t233:=underlying247
 a233:=isAgg247
 z233:=sizeOf247
 v233:=zeroValue247
 g15:=by kernel_rfl
 g16:=by kernel_rfl
 g17:=by kernel_rfl
 g18:=by kernel_rfl
 g19:=by kernel_rfl
 t80:=underlying115
 a80:=isAgg115
 z80:=sizeOf115
 v80:=zeroValue115
 i0:=by kernel_rfl
 i2:=by kernel_rfl
 i3:=by kernel_rfl
 i4:=by kernel_rfl
 i5:=by kernel_rfl
 i9:=by kernel_rfl
 i20:=by kernel_rfl
 i21:=by kernel_rfl
 i37:=by kernel_rfl
 i46:=by kernel_rfl
 i51:=by kernel_rfl
 i53:=by kernel_rfl
 i75:=by kernel_rfl
 i76:=by kernel_rfl
 i80:=by kernel_rfl
 i85:=by kernel_rfl
 i127:=by kernel_rfl
 i143:=by kernel_rfl
 i145:=by kernel_rfl
 i167:=by kernel_rfl
 i168:=by kernel_rfl
 i171:=by kernel_rfl
 i173:=by kernel_rfl
 i175:=by kernel_rfl
 i210:=by kernel_rfl
 i212:=by kernel_rfl
 i232:=by kernel_rfl
 i233:=by kernel_rfl
 m15:=by kernel_rfl
 m16:=by kernel_rfl
 m17:=by kernel_rfl
 m18:=by kernel_rfl
 m19:=by kernel_rfl
 c0:=by kernel_rfl
 c2:=by kernel_rfl
 c3:=by kernel_rfl
 c4:=by kernel_rfl
 c5:=by kernel_rfl
 c9:=by kernel_rfl
 c20:=by kernel_rfl
 c21:=by kernel_rfl
 c37:=by kernel_rfl
 c46:=by kernel_rfl
 c51:=by kernel_rfl
 c53:=by kernel_rfl
 c75:=by kernel_rfl
 c76:=by kernel_rfl
 c80:=by kernel_rfl
 c85:=by kernel_rfl
 c127:=by kernel_rfl
 c143:=by kernel_rfl
 c145:=by kernel_rfl
 c167:=by kernel_rfl
 c168:=by kernel_rfl
 c171:=by kernel_rfl
 c173:=by kernel_rfl
 c175:=by kernel_rfl
 c210:=by kernel_rfl
 c212:=by kernel_rfl
 c213:=by kernel_rfl
 c232:=by kernel_rfl
 c233:=by kernel_rfl}
open Go.RowKit in
theorem Tryz.strconv_Atoi_ok (s:ByteArray) (hmax:s.size≤9223372036854775806) (v:Int) (h:Lib.atoiAll s.data.toList= .ok v) (w:World):
  Calls Tryz.prog 60 #[.string s] w fun e w'=>e= .returned (.tuple #[.int .i64 v,.nilIface])∧(w'=w∨ ∃t,w'=Lib.bytesWorld w 5 t):=Any.strconv_Atoi_ok Tryz.laysC172 s hmax v h w
open Go.RowKit in
theorem Tryz.strconv_Atoi_range (s:ByteArray) (hlim:s.size≤281474976710656) (h:Lib.atoiAll s.data.toList= .range) (ev:Value) (w:World) (hv:w.cell? ⟨6,0,none⟩=some ev) (hev:ev= .nilIface∨ ∃te pe,ev= .iface te pe):
  Calls Tryz.prog 60 #[.string s] w fun e w'=> ∃N,e= .returned (.tuple #[.int .i64 (Lib.atoiSat s.data.toList),.iface 183 (.pointer (some ⟨N,0,none⟩))])∧w.heap.size≤N∧w'.heap[N]? =some (.cells #[.string ⟨#[65,116,111,105]⟩,.string s,ev] 207 (0,0))∧Below w.heap.size w w':=Any.strconv_Atoi_range Tryz.laysC172 s hlim h ev w hv hev
def Tryz.lays197_ren : Go.Shelf.Ren := ⟨fun|197 => 102|260 => 141|n => n, fun|9 => 9|21 => 21|3 => 3|4 => 4|5 => 5|105 => 155|119 => 145|0 => 0|46 => 26|139 => 148|138 => 147|n => n, fun|3 => 0|4 => 1|n => n⟩
theorem Tryz.lays197:Go.Proofs.Lays.n197 Tryz.prog Tryz.lays197_ren:={
 mixed:=by kernel_rfl
 f197:=kT func102 (by kernel_rfl)
 f260:=kT func141 (by kernel_rfl)
 t0:=underlying0
 a0:=isAgg0
 z0:=sizeOf0
 v0:=zeroValue0
 t3:=underlying3
 a3:=isAgg3
 z3:=sizeOf3
 v3:=zeroValue3
 t4:=underlying4
 a4:=isAgg4
 z4:=sizeOf4
 v4:=zeroValue4
 t5:=underlying5
 a5:=isAgg5
 z5:=sizeOf5
 v5:=zeroValue5
 t9:=underlying9
 a9:=isAgg9
 z9:=sizeOf9
 v9:=zeroValue9
 t21:=underlying21
 a21:=isAgg21
 z21:=sizeOf21
 v21:=zeroValue21
 t46:=underlying26
 a46:=isAgg26
 z46:=sizeOf26
 v46:=zeroValue26
 t105:=underlying155
 a105:=isAgg155
 z105:=sizeOf155
 v105:=zeroValue155
 t119:=underlying145
 a119:=isAgg145
 z119:=sizeOf145
 t138:=underlying147
 a138:=isAgg147
 z138:=sizeOf147
 v138:=zeroValue147
 t139:=underlying148
 a139:=isAgg148
 z139:=sizeOf148
 v139:=zeroValue148
 g3:=by kernel_rfl
 g4:=by kernel_rfl}
open Go.RowKit Go.Lib in
theorem Tryz.utf8_DecodeRuneInString (s:ByteArray) (w:World) (hT:Lib.Utf8Tabs 0 1 w):
  Calls Tryz.prog 102 #[.string s] w fun e w'=>e= .returned (.tuple #[.int .i32 (Lib.decodeGo s).1,.int .i64 (Lib.decodeGo s).2])∧Below w.heap.size w w':=Any.utf8_DecodeRuneInString Tryz.lays197 s w hT
def Tryz.lays161_ren : Go.Shelf.Ren := ⟨fun|161 => 95|231 => 130|227 => 123|233 => 131|235 => 132|228 => 124|197 => 102|151 => 157|260 => 141|152 => 121|137 => 62|119 => 149|224 => 150|225 => 151|217 => 101|266 => 140|n => n, fun|9 => 9|4 => 4|3 => 3|5 => 5|117 => 168|116 => 167|0 => 0|124 => 177|105 => 155|21 => 21|119 => 145|46 => 26|139 => 148|138 => 147|n => n, fun|3 => 0|4 => 1|n => n⟩
theorem Tryz.lays161:Go.Proofs.Lays.n161 Tryz.prog Tryz.lays161_ren:={
 mixed:=by kernel_rfl
 f119:=kT func149 (by kernel_rfl)
 f137:=kT func62 (by kernel_rfl)
 f151:=kT func157 (by kernel_rfl)
 f152:=kT func121 (by kernel_rfl)
 f161:=kT func95 (by kernel_rfl)
 f197:=kT func102 (by kernel_rfl)
 f217:=kT func101 (by kernel_rfl)
 f224:=kT func150 (by kernel_rfl)
 f225:=kT func151 (by kernel_rfl)
 f227:=kT func123 (by kernel_rfl)
 f228:=kT func124 (by kernel_rfl)
 f231:=kT func130 (by kernel_rfl)
 f233:=kT func131 (by kernel_rfl)
 f235:=kT func132 (by kernel_rfl)
 f260:=kT func141 (by kernel_rfl)
 f266:=kT func140 (by kernel_rfl)
 t0:=underlying0
 a0:=isAgg0
 z0:=sizeOf0
 v0:=zeroValue0
 t3:=underlying3
 a3:=isAgg3
 z3:=sizeOf3
 v3:=zeroValue3
 t4:=underlying4
 a4:=isAgg4
 z4:=sizeOf4
 v4:=zeroValue4
 t5:=underlying5
 a5:=isAgg5
 z5:=sizeOf5
 v5:=zeroValue5
 t9:=underlying9
 a9:=isAgg9
 z9:=sizeOf9
 v9:=zeroValue9
 t21:=underlying21
 a21:=isAgg21
 z21:=sizeOf21
 v21:=zeroValue21
 t46:=underlying26
 a46:=isAgg26
 z46:=sizeOf26
 v46:=zeroValue26
 t105:=underlying155
 a105:=isAgg155
 z105:=sizeOf155
 v105:=zeroValue155
 t116:=underlying167
 a116:=isAgg167
 z116:=sizeOf167
 t117:=underlying168
 a117:=isAgg168
 z117:=sizeOf168
 v117:=zeroValue168
 t119:=underlying145
 a119:=isAgg145
 z119:=sizeOf145
 t124:=underlying177
 a124:=isAgg177
 z124:=sizeOf177
 v124:=zeroValue177
 t138:=underlying147
 a138:=isAgg147
 z138:=sizeOf147
 v138:=zeroValue147
 t139:=underlying148
 a139:=isAgg148
 z139:=sizeOf148
 v139:=zeroValue148
 g3:=by kernel_rfl
 g4:=by kernel_rfl}
open Go.RowKit Go.Lib in
theorem Tryz.strings_TrimLeft (s c:ByteArray) (w:World) (hc:c.size < 4294967281) (ha: ∀(j:Nat) b,c.data.toList[j]? =some b→b.toNat < 128):
  Calls Tryz.prog (Tryz.lays161_ren.f 161) #[.string s,.string c] w fun e w'=>e= .returned (.string ⟨(Lib.trimLeftS s.data.toList c.data.toList).toArray⟩)∧Below w.heap.size w w':=Any.strings_TrimLeft_laid Tryz.lays161 (by kernel_rfl) s c w hc ha
def Tryz.lays196_ren : Go.Shelf.Ren := ⟨fun|196 => 46|259 => 89|n => n, fun|9 => 9|4 => 4|3 => 3|5 => 5|12 => 12|119 => 145|0 => 0|46 => 26|139 => 148|138 => 147|53 => 171|n => n, fun|3 => 0|4 => 1|n => n⟩
theorem Tryz.lays196:Go.Proofs.Lays.n196 Tryz.prog Tryz.lays196_ren:={
 mixed:=by kernel_rfl
 f196:=kT func46 (by kernel_rfl)
 f259:=kT func89 (by kernel_rfl)
 t0:=underlying0
 a0:=isAgg0
 z0:=sizeOf0
 v0:=zeroValue0
 t3:=underlying3
 a3:=isAgg3
 z3:=sizeOf3
 v3:=zeroValue3
 t4:=underlying4
 a4:=isAgg4
 z4:=sizeOf4
 v4:=zeroValue4
 t5:=underlying5
 a5:=isAgg5
 z5:=sizeOf5
 v5:=zeroValue5
 t9:=underlying9
 a9:=isAgg9
 z9:=sizeOf9
 v9:=zeroValue9
 t12:=underlying12
 a12:=isAgg12
 z12:=sizeOf12
 v12:=zeroValue12
 t46:=underlying26
 a46:=isAgg26
 z46:=sizeOf26
 v46:=zeroValue26
 t53:=underlying171
 a53:=isAgg171
 z53:=sizeOf171
 v53:=zeroValue171
 t119:=underlying145
 a119:=isAgg145
 z119:=sizeOf145
 t138:=underlying147
 a138:=isAgg147
 z138:=sizeOf147
 v138:=zeroValue147
 t139:=underlying148
 a139:=isAgg148
 z139:=sizeOf148
 v139:=zeroValue148
 g3:=by kernel_rfl
 g4:=by kernel_rfl}
open Go.RowKit Go.Lib in
theorem Tryz.utf8_ValidString (s:ByteArray) (w:World) (hs:s.size≤9223372036854775807) (hT:Lib.Utf8Tabs (Tryz.lays196_ren.g 3) (Tryz.lays196_ren.g 4) w):
  Calls Tryz.prog (Tryz.lays196_ren.f 196) #[.string s] w fun e w'=>e= .returned (.bool (Lib.validD s.data.toList))∧Below w.heap.size w w':=Any.utf8_ValidString Tryz.lays196 s w hs hT
def Tryz.lays105_ren : Go.Shelf.Ren := ⟨fun|105 => 94|212 => 127|99 => 58|165 => 128|166 => 92|170 => 129|169 => 56|263 => 154|264 => 155|206 => 96|240 => 126|241 => 156|276 => 153|277 => 168|n => n, fun|9 => 9|3 => 3|4 => 4|20 => 20|0 => 0|46 => 26|109 => 172|5 => 5|72 => 77|76 => 122|51 => 193|146 => 194|53 => 171|148 => 196|70 => 74|37 => 75|75 => 121|127 => 152|164 => 191|80 => 115|n => n, fun|n => n⟩
theorem Tryz.lays105:Go.Proofs.Lays.n105 Tryz.prog Tryz.lays105_ren:={
 mixed:=by kernel_rfl
 f99:=kT func58 (by kernel_rfl)
 f105:=kT func94 (by kernel_rfl)
 f165:=kT func128 (by kernel_rfl)
 f166:=kT func92 (by kernel_rfl)
 f169:=kT func56 (by kernel_rfl)
 f170:=kT func129 (by kernel_rfl)
 f206:=kT func96 (by kernel_rfl)
 f212:=kT func127 (by kernel_rfl)
 f240:=kT func126 (by kernel_rfl)
 f241:=kT func156 (by kernel_rfl)
 f263:=kT func154 (by kernel_rfl)
 f264:=kT func155 (by kernel_rfl)
 f276:=kT func153 (by kernel_rfl)
 f277:=kT func168 (by kernel_rfl)
 t0:=underlying0
 a0:=isAgg0
 z0:=sizeOf0
 v0:=zeroValue0
 t3:=underlying3
 a3:=isAgg3
 z3:=sizeOf3
 v3:=zeroValue3
 t4:=underlying4
 a4:=isAgg4
 z4:=sizeOf4
 v4:=zeroValue4
 t5:=underlying5
 a5:=isAgg5
 z5:=sizeOf5
 v5:=zeroValue5
 t9:=underlying9
 a9:=isAgg9
 z9:=sizeOf9
 v9:=zeroValue9
 t20:=underlying20
 a20:=isAgg20
 z20:=sizeOf20
 v20:=zeroValue20
 t37:=underlying75
 a37:=isAgg75
 z37:=sizeOf75
 v37:=zeroValue75
 t46:=underlying26
 a46:=isAgg26
 z46:=sizeOf26
 v46:=zeroValue26
 t51:=underlying193
 a51:=isAgg193
 z51:=sizeOf193
 v51:=zeroValue193
 t53:=underlying171
 a53:=isAgg171
 z53:=sizeOf171
 v53:=zeroValue171
 t70:=underlying74
 a70:=isAgg74
 z70:=sizeOf74
 v70:=zeroValue74
 t72:=underlying77
 a72:=isAgg77
 z72:=sizeOf77
 v72:=zeroValue77
 t75:=underlying121
 a75:=isAgg121
 z75:=sizeOf121
 v75:=zeroValue121
 t76:=underlying122
 a76:=isAgg122
 z76:=sizeOf122
 v76:=zeroValue122
 t109:=underlying172
 a109:=isAgg172
 z109:=sizeOf172
 v109:=zeroValue172
 t127:=underlying152
 a127:=isAgg152
 z127:=sizeOf152
 v127:=zeroValue152
 t146:=underlying194
 a146:=isAgg194
 z146:=sizeOf194
 v146:=zeroValue194
 t148:=underlying196
 a148:=isAgg196
 z148:=sizeOf196
 v148:=zeroValue196
 t164:=underlying191
 a164:=isAgg191
 z164:=sizeOf191
 v164:=zeroValue191}
theorem Tryz.Builder_Extra_105:Builder.Extra Tryz.prog Tryz.lays105_ren:={
 sizeBuilder:=by kernel_rfl
 liesBuilder:=by kernel_rfl
 t5:=underlying5
 a5:=isAgg5
 z5:=sizeOf5
 v5:=zeroValue5
 infoByte:=by kernel_rfl
 cellsByte:=by kernel_rfl
 sizeByte:=by kernel_rfl
 neB5:=by decide}
open Go.RowKit Go.Lib in
theorem Tryz.strings_Repeat (s:ByteArray) (c:Nat) (w:World) (hc:c≤9223372036854775807) (hlen:s.size * c≤140737488355328):
  Calls Tryz.prog 94 #[.string s,.int .i64 c] w fun e w'=>e= .returned (.string ⟨(Lib.repeatL s.data.toList c).toArray⟩)∧Below w.heap.size w w':=Any.strings_Repeat Tryz.lays105 Tryz.Builder_Extra_105 s c w hc hlen
def Tryz.lays144_ren : Go.Shelf.Ren := ⟨fun|144 => 47|143 => 90|219 => 125|217 => 101|225 => 151|224 => 150|267 => 152|266 => 140|314 => 167|n => n, fun|9 => 9|4 => 4|3 => 3|5 => 5|46 => 26|146 => 194|51 => 193|n => n, fun|1 => 3|n => n⟩
theorem Tryz.lays144:Go.Proofs.Lays.n144 Tryz.prog Tryz.lays144_ren:={
 mixed:=by kernel_rfl
 f143:=kT func90 (by kernel_rfl)
 f144:=kT func47 (by kernel_rfl)
 f217:=kT func101 (by kernel_rfl)
 f219:=kT func125 (by kernel_rfl)
 f224:=kT func150 (by kernel_rfl)
 f225:=kT func151 (by kernel_rfl)
 f266:=kT func140 (by kernel_rfl)
 f267:=kT func152 (by kernel_rfl)
 f314:=kT func167 (by kernel_rfl)
 t3:=underlying3
 a3:=isAgg3
 z3:=sizeOf3
 v3:=zeroValue3
 t4:=underlying4
 a4:=isAgg4
 z4:=sizeOf4
 v4:=zeroValue4
 t5:=underlying5
 a5:=isAgg5
 z5:=sizeOf5
 v5:=zeroValue5
 t9:=underlying9
 a9:=isAgg9
 z9:=sizeOf9
 v9:=zeroValue9
 t46:=underlying26
 a46:=isAgg26
 z46:=sizeOf26
 v46:=zeroValue26
 t51:=underlying193
 a51:=isAgg193
 z51:=sizeOf193
 v51:=zeroValue193
 t146:=underlying194
 a146:=isAgg194
 z146:=sizeOf194
 v146:=zeroValue194
 g1:=by kernel_rfl}
open Go.RowKit Go.Lib in
theorem Tryz.strings_Contains_one (s:ByteArray) (c:UInt8) (w:World):
  Calls Tryz.prog 47 #[.string s,.string ⟨#[c]⟩] w fun e w'=>e= .returned (.bool (decide (0≤Lib.indexByte s.data.toList c)))∧w'=w:=Any.strings_Contains_one Tryz.lays144 s c w
def Tryz.lays195_ren : Go.Shelf.Ren := ⟨fun|195 => 93|n => n, fun|9 => 9|3 => 3|0 => 0|4 => 4|n => n, fun|n => n⟩
theorem Tryz.lays195:Go.Proofs.Lays.n195 Tryz.prog Tryz.lays195_ren:={
 mixed:=by kernel_rfl
 f195:=kT func93 (by kernel_rfl)
 t0:=underlying0
 a0:=isAgg0
 z0:=sizeOf0
 v0:=zeroValue0
 t3:=underlying3
 a3:=isAgg3
 z3:=sizeOf3
 v3:=zeroValue3
 t4:=underlying4
 a4:=isAgg4
 z4:=sizeOf4
 v4:=zeroValue4
 t9:=underlying9
 a9:=isAgg9
 z9:=sizeOf9
 v9:=zeroValue9}
open Go.RowKit in
theorem Tryz.utf8_RuneCountInString (s:ByteArray) (w:World) (hs:s.size < 9223372036854775807):
  Calls Tryz.prog 93 #[.string s] w fun e w'=>e= .returned (.int .i64 (Lib.runeCount s))∧ ∃pos,w'=w.iter s pos:=Any.utf8_RuneCountInString Tryz.lays195 s w hs
def Tryz.lays150_ren : Go.Shelf.Ren := ⟨fun|150 => 43|153 => 72|152 => 121|226 => 122|227 => 123|228 => 124|137 => 62|119 => 149|224 => 150|225 => 151|217 => 101|266 => 140|n => n, fun|9 => 9|4 => 4|3 => 3|5 => 5|21 => 21|117 => 168|116 => 167|0 => 0|46 => 26|124 => 177|n => n, fun|n => n⟩
theorem Tryz.lays150:Go.Proofs.Lays.n150 Tryz.prog Tryz.lays150_ren:={
 mixed:=by kernel_rfl
 f119:=kT func149 (by kernel_rfl)
 f137:=kT func62 (by kernel_rfl)
 f150:=kT func43 (by kernel_rfl)
 f152:=kT func121 (by kernel_rfl)
 f153:=kT func72 (by kernel_rfl)
 f217:=kT func101 (by kernel_rfl)
 f224:=kT func150 (by kernel_rfl)
 f225:=kT func151 (by kernel_rfl)
 f226:=kT func122 (by kernel_rfl)
 f227:=kT func123 (by kernel_rfl)
 f228:=kT func124 (by kernel_rfl)
 f266:=kT func140 (by kernel_rfl)
 t0:=underlying0
 a0:=isAgg0
 z0:=sizeOf0
 v0:=zeroValue0
 t3:=underlying3
 a3:=isAgg3
 z3:=sizeOf3
 v3:=zeroValue3
 t4:=underlying4
 a4:=isAgg4
 z4:=sizeOf4
 v4:=zeroValue4
 t5:=underlying5
 a5:=isAgg5
 z5:=sizeOf5
 v5:=zeroValue5
 t9:=underlying9
 a9:=isAgg9
 z9:=sizeOf9
 v9:=zeroValue9
 t21:=underlying21
 a21:=isAgg21
 z21:=sizeOf21
 v21:=zeroValue21
 t46:=underlying26
 a46:=isAgg26
 z46:=sizeOf26
 v46:=zeroValue26
 t116:=underlying167
 a116:=isAgg167
 z116:=sizeOf167
 t117:=underlying168
 a117:=isAgg168
 z117:=sizeOf168
 v117:=zeroValue168
 t124:=underlying177
 a124:=isAgg177
 z124:=sizeOf177
 v124:=zeroValue177}
end Go.Proofs
