/-
  A part of the proof.
-/
import Derived.Shelf.Strings.IndexAnyAll
import Derived.Shelf.Unicode.ValidAny
import Derived.Shelf.Strings.SlTrimAscii
import Derived.KernelRfl
import Derived.Shelf.Strings.Builder1
import Derived.Shelf.Strings.Builder2
import Derived.Shelf.Strings.Trim
import Derived.Shelf.Small.Utf8
import Derived.Shelf.Small.Strs
import Derived.Shelf.Strings.BuilderF
import Derived.Shelf.Utf8.RuneCount
import Derived.Shelf.Strconv.Atoi
import Derived.Shelf.Strconv.Itoa0
import Derived.Shelf.Strconv.Itoa1
import Derived.Shelf.LaysM
import Derived.Shelf.Strconv.Itoa2
import Derived.Shelf.Strconv.Itoa3
import Derived.Shelf.Strconv.AtoiErrFast
import Derived.Shelf.Strconv.ParseIntEmpty
import Derived.Shelf.Strconv.AtoiFail
import Derived.Shelf.Strconv.Clone
import Derived.Shelf.Strconv.SyntaxError
import Derived.Shelf.LaysC
import Derived.Shelf.Strconv.ToError
import Derived.Shelf.Strconv.Lower
import Derived.Shelf.Strconv.ParseUint10
import Derived.Shelf.Strconv.ParseUint10Empty
import Derived.Shelf.Strconv.ParseUint10Any
import Derived.Shelf.Strconv.ParseInt10
import Derived.Shelf.Strconv.AtoiLong
import Derived.Shelf.Strconv.AtoiInnerAll
import Derived.Shelf.Strconv.RangeError
import Derived.Shelf.Strconv.ToErrorRange
import Derived.Shelf.Strconv.AtoiAll
import Derived.Shelf.Strings.Search1
import Derived.Shelf.Strings.Search2
import Derived.Shelf.Strings.Search3
import Derived.Shelf.Strings.Shaped
import Derived.Shelf.Strings.Prefix
import Derived.Shelf.Strings.Fields
import Derived.Shelf.Strings.SplitShaped
import Derived.Shelf.Unicode.Latin
import Derived.Shelf.Unicode.Decode
import Derived.Shelf.Strings.Runes
import Derived.Shelf.Strings.RuneCount
import Derived.Shelf.Strings.IndexAny
import Derived.Shelf.Strings.AsciiSet
import Derived.Shelf.Strings.IndexAnyAll
import Derived.Shelf.Bits.Mul64
import Derived.Shelf.Strings.Repeat
import Derived.Shelf.Unicode.DecodeSlow
import Derived.Shelf.Unicode.DecodeAny
import Derived.Shelf.Unicode.Is16White
import Derived.Shelf.Unicode.IsSpaceAny
import Derived.Shelf.Unicode.Is16Any
import Derived.Shelf.Unicode.Is32Any
import Derived.Shelf.Unicode.ExclAny
import Derived.Test.YtkpeicabocpbkaaGreatDoorProg
namespace Go.Proofs
open Go.Shelf
theorem kT {α:Type} {x:Option α} {a b:α} (h:x=some a) (e:a=b):x=some b:=e ▸ h
open Tryz
def Tryz.laysC172_ren : Go.Shelf.Ren := ⟨fun|172 => 112|244 => 138|245 => 139|247 => 163|279 => 164|280 => 165|281 => 166|282 => 167|287 => 179|316 => 180|171 => 182|205 => 181|321 => 189|322 => 190|243 => 191|246 => 192|283 => 193|284 => 194|285 => 195|286 => 196|129 => 198|317 => 197|318 => 199|319 => 200|320 => 201|337 => 202|338 => 203|n => n, fun|9 => 9|3 => 3|75 => 123|76 => 124|4 => 4|5 => 5|167 => 169|37 => 64|0 => 0|85 => 170|2 => 2|168 => 172|53 => 144|175 => 184|46 => 32|210 => 188|127 => 127|145 => 208|143 => 206|21 => 21|171 => 212|173 => 215|212 => 218|51 => 161|20 => 20|213 => 219|232 => 222|233 => 223|80 => 99|n => n, fun|15 => 5|16 => 6|17 => 7|18 => 8|19 => 9|n => n⟩
theorem Tryz.laysC172:Go.Proofs.LaysC.n172 Tryz.prog Tryz.laysC172_ren:={
 mixed:=by kernel_rfl
 f129:=kT func198 (by kernel_rfl)
 f171:=kT func182 (by kernel_rfl)
 f172:=kT func112 (by kernel_rfl)
 f205:=kT func181 (by kernel_rfl)
 f243:=kT func191 (by kernel_rfl)
 f244:=kT func138 (by kernel_rfl)
 f245:=kT func139 (by kernel_rfl)
 f246:=kT func192 (by kernel_rfl)
 f247:=kT func163 (by kernel_rfl)
 f279:=kT func164 (by kernel_rfl)
 f280:=kT func165 (by kernel_rfl)
 f281:=kT func166 (by kernel_rfl)
 f282:=kT func167 (by kernel_rfl)
 f283:=kT func193 (by kernel_rfl)
 f284:=kT func194 (by kernel_rfl)
 f285:=kT func195 (by kernel_rfl)
 f286:=kT func196 (by kernel_rfl)
 f287:=kT func179 (by kernel_rfl)
 f316:=kT func180 (by kernel_rfl)
 f317:=kT func197 (by kernel_rfl)
 f318:=kT func199 (by kernel_rfl)
 f319:=kT func200 (by kernel_rfl)
 f320:=kT func201 (by kernel_rfl)
 f321:=kT func189 (by kernel_rfl)
 f322:=kT func190 (by kernel_rfl)
 f337:=kT func202 (by kernel_rfl)
 f338:=kT func203 (by kernel_rfl)
 t0:=underlying0
 a0:=isAgg0
 z0:=sizeOf0
 v0:=zeroValue0
 t2:=underlying2
 a2:=isAgg2
 z2:=sizeOf2
 v2:=zeroValue2
 t3:=underlying3
 a3:=isAgg3
 z3:=sizeOf3
 v3:=zeroValue3
 t4:=underlying4
 a4:=isAgg4
 z4:=sizeOf4
 v4:=zeroValue4
 t5:=underlying5
 a5:=isAgg5
 z5:=sizeOf5
 v5:=zeroValue5
 t9:=underlying9
 a9:=isAgg9
 z9:=sizeOf9
 v9:=zeroValue9
 t20:=underlying20
 a20:=isAgg20
 z20:=sizeOf20
 v20:=zeroValue20
 t21:=underlying21
 a21:=isAgg21
 z21:=sizeOf21
 v21:=zeroValue21
 t37:=underlying64
 a37:=isAgg64
 z37:=sizeOf64
 v37:=zeroValue64
 t46:=underlying32
 a46:=isAgg32
 z46:=sizeOf32
 v46:=zeroValue32
 t51:=underlying161
 a51:=isAgg161
 z51:=sizeOf161
 v51:=zeroValue161
 t53:=underlying144
 a53:=isAgg144
 z53:=sizeOf144
 v53:=zeroValue144
 t75:=underlying123
 a75:=isAgg123
 z75:=sizeOf123
 v75:=zeroValue123
 t76:=underlying124
 a76:=isAgg124
 z76:=sizeOf124
 v76:=zeroValue124
 t85:=underlying170
 a85:=isAgg170
 z85:=sizeOf170
 v85:=zeroValue170
 t127:=underlying127
 a127:=isAgg127
 z127:=sizeOf127
 v127:=zeroValue127
 t143:=underlying206
 a143:=isAgg206
 z143:=sizeOf206
 v143:=zeroValue206
 t145:=underlying208
 a145:=isAgg208
 z145:=sizeOf208
 v145:=zeroValue208
 t167:=underlying169
 a167:=isAgg169
 z167:=sizeOf169
 v167:=zeroValue169
 t168:=underlying172
 a168:=isAgg172
 z168:=sizeOf172
 v168:=zeroValue172
 t171:=underlying212
 a171:=isAgg212
 z171:=sizeOf212
 v171:=zeroValue212
 t173:=underlying215
 a173:=isAgg215
 z173:=sizeOf215
 v173:=zeroValue215
 t175:=underlying184
 a175:=isAgg184
 z175:=sizeOf184
 v175:=zeroValue184
 t210:=underlying188
 a210:=isAgg188
 z210:=sizeOf188
 v210:=zeroValue188
 t212:=underlying218
 a212:=isAgg218
 z212:=sizeOf218
 v212:=zeroValue218
 t213:=underlying219
 a213:=isAgg219
 z213:=sizeOf219
 t232:=underlying222
 a232:=isAgg222
 z232:=sizeOf222
 v232:=zeroValue222
 t233:=underlying223
 a233:=isAgg223
 z233:=sizeOf223
 v233:=zeroValue223
 g15:=by kernel_rfl
 g16:=by kernel_rfl
 g17:=by kernel_rfl
 g18:=by kernel_rfl
 g19:=by kernel_rfl
 t80:=underlying99
 a80:=isAgg99
 z80:=sizeOf99
 v80:=zeroValue99
 i0:=by kernel_rfl
 i2:=by kernel_rfl
 i3:=by kernel_rfl
 i4:=by kernel_rfl
 i5:=by kernel_rfl
 i9:=by kernel_rfl
 i20:=by kernel_rfl
 i21:=by kernel_rfl
 i37:=by kernel_rfl
 i46:=by kernel_rfl
 i51:=by kernel_rfl
 i53:=by kernel_rfl
 i75:=by kernel_rfl
 i76:=by kernel_rfl
 i80:=by kernel_rfl
 i85:=by kernel_rfl
 i127:=by kernel_rfl
 i143:=by kernel_rfl
 i145:=by kernel_rfl
 i167:=by kernel_rfl
 i168:=by kernel_rfl
 i171:=by kernel_rfl
 i173:=by kernel_rfl
 i175:=by kernel_rfl
 i210:=by kernel_rfl
 i212:=by kernel_rfl
 i232:=by kernel_rfl
 i233:=by kernel_rfl
 m15:=by kernel_rfl
 m16:=by kernel_rfl
 m17:=by kernel_rfl
 m18:=by kernel_rfl
 m19:=by kernel_rfl
 c0:=by kernel_rfl
 c2:=by kernel_rfl
 c3:=by kernel_rfl
 c4:=by kernel_rfl
 c5:=by kernel_rfl
 c9:=by kernel_rfl
 c20:=by kernel_rfl
 c21:=by kernel_rfl
 c37:=by kernel_rfl
 c46:=by kernel_rfl
 c51:=by kernel_rfl
 c53:=by kernel_rfl
 c75:=by kernel_rfl
 c76:=by kernel_rfl
 c80:=by kernel_rfl
 c85:=by kernel_rfl
 c127:=by kernel_rfl
 c143:=by kernel_rfl
 c145:=by kernel_rfl
 c167:=by kernel_rfl
 c168:=by kernel_rfl
 c171:=by kernel_rfl
 c173:=by kernel_rfl
 c175:=by kernel_rfl
 c210:=by kernel_rfl
 c212:=by kernel_rfl
 c213:=by kernel_rfl
 c232:=by kernel_rfl
 c233:=by kernel_rfl}
open Go.RowKit in
theorem Tryz.strconv_Atoi_ok (s:ByteArray) (hmax:s.size≤9223372036854775806) (v:Int) (h:Lib.atoiAll s.data.toList= .ok v) (w:World):
  Calls Tryz.prog 112 #[.string s] w fun e w'=>e= .returned (.tuple #[.int .i64 v,.nilIface])∧(w'=w∨ ∃t,w'=Lib.bytesWorld w 5 t):=Any.strconv_Atoi_ok Tryz.laysC172 s hmax v h w
open Go.RowKit in
theorem Tryz.strconv_Atoi_range (s:ByteArray) (hlim:s.size≤281474976710656) (h:Lib.atoiAll s.data.toList= .range) (ev:Value) (w:World) (hv:w.cell? ⟨6,0,none⟩=some ev) (hev:ev= .nilIface∨ ∃te pe,ev= .iface te pe):
  Calls Tryz.prog 112 #[.string s] w fun e w'=> ∃N,e= .returned (.tuple #[.int .i64 (Lib.atoiSat s.data.toList),.iface 172 (.pointer (some ⟨N,0,none⟩))])∧w.heap.size≤N∧w'.heap[N]? =some (.cells #[.string ⟨#[65,116,111,105]⟩,.string s,ev] 188 (0,0))∧Below w.heap.size w w':=Any.strconv_Atoi_range Tryz.laysC172 s hlim h ev w hv hev
def Tryz.lays197_ren : Go.Shelf.Ren := ⟨fun|197 => 142|260 => 169|n => n, fun|9 => 9|21 => 21|3 => 3|4 => 4|5 => 5|105 => 151|119 => 117|0 => 0|46 => 32|139 => 120|138 => 119|n => n, fun|3 => 0|4 => 1|n => n⟩
theorem Tryz.lays197:Go.Proofs.Lays.n197 Tryz.prog Tryz.lays197_ren:={
 mixed:=by kernel_rfl
 f197:=kT func142 (by kernel_rfl)
 f260:=kT func169 (by kernel_rfl)
 t0:=underlying0
 a0:=isAgg0
 z0:=sizeOf0
 v0:=zeroValue0
 t3:=underlying3
 a3:=isAgg3
 z3:=sizeOf3
 v3:=zeroValue3
 t4:=underlying4
 a4:=isAgg4
 z4:=sizeOf4
 v4:=zeroValue4
 t5:=underlying5
 a5:=isAgg5
 z5:=sizeOf5
 v5:=zeroValue5
 t9:=underlying9
 a9:=isAgg9
 z9:=sizeOf9
 v9:=zeroValue9
 t21:=underlying21
 a21:=isAgg21
 z21:=sizeOf21
 v21:=zeroValue21
 t46:=underlying32
 a46:=isAgg32
 z46:=sizeOf32
 v46:=zeroValue32
 t105:=underlying151
 a105:=isAgg151
 z105:=sizeOf151
 v105:=zeroValue151
 t119:=underlying117
 a119:=isAgg117
 z119:=sizeOf117
 t138:=underlying119
 a138:=isAgg119
 z138:=sizeOf119
 v138:=zeroValue119
 t139:=underlying120
 a139:=isAgg120
 z139:=sizeOf120
 v139:=zeroValue120
 g3:=by kernel_rfl
 g4:=by kernel_rfl}
open Go.RowKit Go.Lib in
theorem Tryz.utf8_DecodeRuneInString (s:ByteArray) (w:World) (hT:Lib.Utf8Tabs 0 1 w):
  Calls Tryz.prog 142 #[.string s] w fun e w'=>e= .returned (.tuple #[.int .i32 (Lib.decodeGo s).1,.int .i64 (Lib.decodeGo s).2])∧Below w.heap.size w w':=Any.utf8_DecodeRuneInString Tryz.lays197 s w hT
def Tryz.lays161_ren : Go.Shelf.Ren := ⟨fun|161 => 135|231 => 158|227 => 124|233 => 159|235 => 160|228 => 125|197 => 142|151 => 177|260 => 169|152 => 122|137 => 114|119 => 149|224 => 150|225 => 151|217 => 141|266 => 168|n => n, fun|9 => 9|4 => 4|3 => 3|5 => 5|117 => 142|116 => 141|0 => 0|124 => 158|105 => 151|21 => 21|119 => 117|46 => 32|139 => 120|138 => 119|n => n, fun|3 => 0|4 => 1|n => n⟩
theorem Tryz.lays161:Go.Proofs.Lays.n161 Tryz.prog Tryz.lays161_ren:={
 mixed:=by kernel_rfl
 f119:=kT func149 (by kernel_rfl)
 f137:=kT func114 (by kernel_rfl)
 f151:=kT func177 (by kernel_rfl)
 f152:=kT func122 (by kernel_rfl)
 f161:=kT func135 (by kernel_rfl)
 f197:=kT func142 (by kernel_rfl)
 f217:=kT func141 (by kernel_rfl)
 f224:=kT func150 (by kernel_rfl)
 f225:=kT func151 (by kernel_rfl)
 f227:=kT func124 (by kernel_rfl)
 f228:=kT func125 (by kernel_rfl)
 f231:=kT func158 (by kernel_rfl)
 f233:=kT func159 (by kernel_rfl)
 f235:=kT func160 (by kernel_rfl)
 f260:=kT func169 (by kernel_rfl)
 f266:=kT func168 (by kernel_rfl)
 t0:=underlying0
 a0:=isAgg0
 z0:=sizeOf0
 v0:=zeroValue0
 t3:=underlying3
 a3:=isAgg3
 z3:=sizeOf3
 v3:=zeroValue3
 t4:=underlying4
 a4:=isAgg4
 z4:=sizeOf4
 v4:=zeroValue4
 t5:=underlying5
 a5:=isAgg5
 z5:=sizeOf5
 v5:=zeroValue5
 t9:=underlying9
 a9:=isAgg9
 z9:=sizeOf9
 v9:=zeroValue9
 t21:=underlying21
 a21:=isAgg21
 z21:=sizeOf21
 v21:=zeroValue21
 t46:=underlying32
 a46:=isAgg32
 z46:=sizeOf32
 v46:=zeroValue32
 t105:=underlying151
 a105:=isAgg151
 z105:=sizeOf151
 v105:=zeroValue151
 t116:=underlying141
 a116:=isAgg141
 z116:=sizeOf141
 t117:=underlying142
 a117:=isAgg142
 z117:=sizeOf142
 v117:=zeroValue142
 t119:=underlying117
 a119:=isAgg117
 z119:=sizeOf117
 t124:=underlying158
 a124:=isAgg158
 z124:=sizeOf158
 v124:=zeroValue158
 t138:=underlying119
 a138:=isAgg119
 z138:=sizeOf119
 v138:=zeroValue119
 t139:=underlying120
 a139:=isAgg120
 z139:=sizeOf120
 v139:=zeroValue120
 g3:=by kernel_rfl
 g4:=by kernel_rfl}
open Go.RowKit Go.Lib in
theorem Tryz.strings_TrimLeft (s c:ByteArray) (w:World) (hc:c.size < 4294967281) (ha: ∀(j:Nat) b,c.data.toList[j]? =some b→b.toNat < 128):
  Calls Tryz.prog (Tryz.lays161_ren.f 161) #[.string s,.string c] w fun e w'=>e= .returned (.string ⟨(Lib.trimLeftS s.data.toList c.data.toList).toArray⟩)∧Below w.heap.size w w':=Any.strings_TrimLeft_laid Tryz.lays161 (by kernel_rfl) s c w hc ha
def Tryz.lays196_ren : Go.Shelf.Ren := ⟨fun|196 => 51|259 => 100|n => n, fun|9 => 9|4 => 4|3 => 3|5 => 5|12 => 12|119 => 117|0 => 0|46 => 32|139 => 120|138 => 119|53 => 144|n => n, fun|3 => 0|4 => 1|n => n⟩
theorem Tryz.lays196:Go.Proofs.Lays.n196 Tryz.prog Tryz.lays196_ren:={
 mixed:=by kernel_rfl
 f196:=kT func51 (by kernel_rfl)
 f259:=kT func100 (by kernel_rfl)
 t0:=underlying0
 a0:=isAgg0
 z0:=sizeOf0
 v0:=zeroValue0
 t3:=underlying3
 a3:=isAgg3
 z3:=sizeOf3
 v3:=zeroValue3
 t4:=underlying4
 a4:=isAgg4
 z4:=sizeOf4
 v4:=zeroValue4
 t5:=underlying5
 a5:=isAgg5
 z5:=sizeOf5
 v5:=zeroValue5
 t9:=underlying9
 a9:=isAgg9
 z9:=sizeOf9
 v9:=zeroValue9
 t12:=underlying12
 a12:=isAgg12
 z12:=sizeOf12
 v12:=zeroValue12
 t46:=underlying32
 a46:=isAgg32
 z46:=sizeOf32
 v46:=zeroValue32
 t53:=underlying144
 a53:=isAgg144
 z53:=sizeOf144
 v53:=zeroValue144
 t119:=underlying117
 a119:=isAgg117
 z119:=sizeOf117
 t138:=underlying119
 a138:=isAgg119
 z138:=sizeOf119
 v138:=zeroValue119
 t139:=underlying120
 a139:=isAgg120
 z139:=sizeOf120
 v139:=zeroValue120
 g3:=by kernel_rfl
 g4:=by kernel_rfl}
open Go.RowKit Go.Lib in
theorem Tryz.utf8_ValidString (s:ByteArray) (w:World) (hs:s.size≤9223372036854775807) (hT:Lib.Utf8Tabs (Tryz.lays196_ren.g 3) (Tryz.lays196_ren.g 4) w):
  Calls Tryz.prog (Tryz.lays196_ren.f 196) #[.string s] w fun e w'=>e= .returned (.bool (Lib.validD s.data.toList))∧Below w.heap.size w w':=Any.utf8_ValidString Tryz.lays196 s w hs hT
def Tryz.lays105_ren : Go.Shelf.Ren := ⟨fun|105 => 105|212 => 128|99 => 110|165 => 129|166 => 103|170 => 130|169 => 61|263 => 154|264 => 155|206 => 136|240 => 127|241 => 156|276 => 153|277 => 175|n => n, fun|9 => 9|3 => 3|4 => 4|20 => 20|0 => 0|46 => 32|109 => 145|5 => 5|72 => 66|76 => 124|51 => 161|146 => 162|53 => 144|148 => 164|70 => 63|37 => 64|75 => 123|127 => 127|164 => 159|80 => 99|n => n, fun|n => n⟩
theorem Tryz.lays105:Go.Proofs.Lays.n105 Tryz.prog Tryz.lays105_ren:={
 mixed:=by kernel_rfl
 f99:=kT func110 (by kernel_rfl)
 f105:=kT func105 (by kernel_rfl)
 f165:=kT func129 (by kernel_rfl)
 f166:=kT func103 (by kernel_rfl)
 f169:=kT func61 (by kernel_rfl)
 f170:=kT func130 (by kernel_rfl)
 f206:=kT func136 (by kernel_rfl)
 f212:=kT func128 (by kernel_rfl)
 f240:=kT func127 (by kernel_rfl)
 f241:=kT func156 (by kernel_rfl)
 f263:=kT func154 (by kernel_rfl)
 f264:=kT func155 (by kernel_rfl)
 f276:=kT func153 (by kernel_rfl)
 f277:=kT func175 (by kernel_rfl)
 t0:=underlying0
 a0:=isAgg0
 z0:=sizeOf0
 v0:=zeroValue0
 t3:=underlying3
 a3:=isAgg3
 z3:=sizeOf3
 v3:=zeroValue3
 t4:=underlying4
 a4:=isAgg4
 z4:=sizeOf4
 v4:=zeroValue4
 t5:=underlying5
 a5:=isAgg5
 z5:=sizeOf5
 v5:=zeroValue5
 t9:=underlying9
 a9:=isAgg9
 z9:=sizeOf9
 v9:=zeroValue9
 t20:=underlying20
 a20:=isAgg20
 z20:=sizeOf20
 v20:=zeroValue20
 t37:=underlying64
 a37:=isAgg64
 z37:=sizeOf64
 v37:=zeroValue64
 t46:=underlying32
 a46:=isAgg32
 z46:=sizeOf32
 v46:=zeroValue32
 t51:=underlying161
 a51:=isAgg161
 z51:=sizeOf161
 v51:=zeroValue161
 t53:=underlying144
 a53:=isAgg144
 z53:=sizeOf144
 v53:=zeroValue144
 t70:=underlying63
 a70:=isAgg63
 z70:=sizeOf63
 v70:=zeroValue63
 t72:=underlying66
 a72:=isAgg66
 z72:=sizeOf66
 v72:=zeroValue66
 t75:=underlying123
 a75:=isAgg123
 z75:=sizeOf123
 v75:=zeroValue123
 t76:=underlying124
 a76:=isAgg124
 z76:=sizeOf124
 v76:=zeroValue124
 t109:=underlying145
 a109:=isAgg145
 z109:=sizeOf145
 v109:=zeroValue145
 t127:=underlying127
 a127:=isAgg127
 z127:=sizeOf127
 v127:=zeroValue127
 t146:=underlying162
 a146:=isAgg162
 z146:=sizeOf162
 v146:=zeroValue162
 t148:=underlying164
 a148:=isAgg164
 z148:=sizeOf164
 v148:=zeroValue164
 t164:=underlying159
 a164:=isAgg159
 z164:=sizeOf159
 v164:=zeroValue159}
theorem Tryz.Builder_Extra_105:Builder.Extra Tryz.prog Tryz.lays105_ren:={
 sizeBuilder:=by kernel_rfl
 liesBuilder:=by kernel_rfl
 t5:=underlying5
 a5:=isAgg5
 z5:=sizeOf5
 v5:=zeroValue5
 infoByte:=by kernel_rfl
 cellsByte:=by kernel_rfl
 sizeByte:=by kernel_rfl
 neB5:=by decide}
open Go.RowKit Go.Lib in
theorem Tryz.strings_Repeat (s:ByteArray) (c:Nat) (w:World) (hc:c≤9223372036854775807) (hlen:s.size * c≤140737488355328):
  Calls Tryz.prog 105 #[.string s,.int .i64 c] w fun e w'=>e= .returned (.string ⟨(Lib.repeatL s.data.toList c).toArray⟩)∧Below w.heap.size w w':=Any.strings_Repeat Tryz.lays105 Tryz.Builder_Extra_105 s c w hc hlen
def Tryz.lays144_ren : Go.Shelf.Ren := ⟨fun|144 => 52|143 => 101|219 => 126|217 => 141|225 => 151|224 => 150|267 => 152|266 => 168|314 => 174|n => n, fun|9 => 9|4 => 4|3 => 3|5 => 5|46 => 32|146 => 162|51 => 161|n => n, fun|1 => 2|n => n⟩
theorem Tryz.lays144:Go.Proofs.Lays.n144 Tryz.prog Tryz.lays144_ren:={
 mixed:=by kernel_rfl
 f143:=kT func101 (by kernel_rfl)
 f144:=kT func52 (by kernel_rfl)
 f217:=kT func141 (by kernel_rfl)
 f219:=kT func126 (by kernel_rfl)
 f224:=kT func150 (by kernel_rfl)
 f225:=kT func151 (by kernel_rfl)
 f266:=kT func168 (by kernel_rfl)
 f267:=kT func152 (by kernel_rfl)
 f314:=kT func174 (by kernel_rfl)
 t3:=underlying3
 a3:=isAgg3
 z3:=sizeOf3
 v3:=zeroValue3
 t4:=underlying4
 a4:=isAgg4
 z4:=sizeOf4
 v4:=zeroValue4
 t5:=underlying5
 a5:=isAgg5
 z5:=sizeOf5
 v5:=zeroValue5
 t9:=underlying9
 a9:=isAgg9
 z9:=sizeOf9
 v9:=zeroValue9
 t46:=underlying32
 a46:=isAgg32
 z46:=sizeOf32
 v46:=zeroValue32
 t51:=underlying161
 a51:=isAgg161
 z51:=sizeOf161
 v51:=zeroValue161
 t146:=underlying162
 a146:=isAgg162
 z146:=sizeOf162
 v146:=zeroValue162
 g1:=by kernel_rfl}
open Go.RowKit Go.Lib in
theorem Tryz.strings_Contains_one (s:ByteArray) (c:UInt8) (w:World):
  Calls Tryz.prog 52 #[.string s,.string ⟨#[c]⟩] w fun e w'=>e= .returned (.bool (decide (0≤Lib.indexByte s.data.toList c)))∧w'=w:=Any.strings_Contains_one Tryz.lays144 s c w
def Tryz.lays195_ren : Go.Shelf.Ren := ⟨fun|195 => 104|n => n, fun|9 => 9|3 => 3|0 => 0|4 => 4|n => n, fun|n => n⟩
theorem Tryz.lays195:Go.Proofs.Lays.n195 Tryz.prog Tryz.lays195_ren:={
 mixed:=by kernel_rfl
 f195:=kT func104 (by kernel_rfl)
 t0:=underlying0
 a0:=isAgg0
 z0:=sizeOf0
 v0:=zeroValue0
 t3:=underlying3
 a3:=isAgg3
 z3:=sizeOf3
 v3:=zeroValue3
 t4:=underlying4
 a4:=isAgg4
 z4:=sizeOf4
 v4:=zeroValue4
 t9:=underlying9
 a9:=isAgg9
 z9:=sizeOf9
 v9:=zeroValue9}
open Go.RowKit in
theorem Tryz.utf8_RuneCountInString (s:ByteArray) (w:World) (hs:s.size < 9223372036854775807):
  Calls Tryz.prog 104 #[.string s] w fun e w'=>e= .returned (.int .i64 (Lib.runeCount s))∧ ∃pos,w'=w.iter s pos:=Any.utf8_RuneCountInString Tryz.lays195 s w hs
def Tryz.lays150_ren : Go.Shelf.Ren := ⟨fun|150 => 48|153 => 83|152 => 122|226 => 123|227 => 124|228 => 125|137 => 114|119 => 149|224 => 150|225 => 151|217 => 141|266 => 168|n => n, fun|9 => 9|4 => 4|3 => 3|5 => 5|21 => 21|117 => 142|116 => 141|0 => 0|46 => 32|124 => 158|n => n, fun|n => n⟩
theorem Tryz.lays150:Go.Proofs.Lays.n150 Tryz.prog Tryz.lays150_ren:={
 mixed:=by kernel_rfl
 f119:=kT func149 (by kernel_rfl)
 f137:=kT func114 (by kernel_rfl)
 f150:=kT func48 (by kernel_rfl)
 f152:=kT func122 (by kernel_rfl)
 f153:=kT func83 (by kernel_rfl)
 f217:=kT func141 (by kernel_rfl)
 f224:=kT func150 (by kernel_rfl)
 f225:=kT func151 (by kernel_rfl)
 f226:=kT func123 (by kernel_rfl)
 f227:=kT func124 (by kernel_rfl)
 f228:=kT func125 (by kernel_rfl)
 f266:=kT func168 (by kernel_rfl)
 t0:=underlying0
 a0:=isAgg0
 z0:=sizeOf0
 v0:=zeroValue0
 t3:=underlying3
 a3:=isAgg3
 z3:=sizeOf3
 v3:=zeroValue3
 t4:=underlying4
 a4:=isAgg4
 z4:=sizeOf4
 v4:=zeroValue4
 t5:=underlying5
 a5:=isAgg5
 z5:=sizeOf5
 v5:=zeroValue5
 t9:=underlying9
 a9:=isAgg9
 z9:=sizeOf9
 v9:=zeroValue9
 t21:=underlying21
 a21:=isAgg21
 z21:=sizeOf21
 v21:=zeroValue21
 t46:=underlying32
 a46:=isAgg32
 z46:=sizeOf32
 v46:=zeroValue32
 t116:=underlying141
 a116:=isAgg141
 z116:=sizeOf141
 t117:=underlying142
 a117:=isAgg142
 z117:=sizeOf142
 v117:=zeroValue142
 t124:=underlying158
 a124:=isAgg158
 z124:=sizeOf158
 v124:=zeroValue158}
end Go.Proofs
