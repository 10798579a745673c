/- Texts joined into one: the walks and laws that the last text leans on. Conditions: as each says. -/
import Derived.Shelf.SlGeneric
import Derived.Shelf.SlicesE.Reverse
import Derived.Ground.SlgnProg
import Derived.Shelf.Strings.Builder1
import Derived.Shelf.Strings.Builder2
import Derived.Shelf.Strings.OnBuilder
import Derived.Shelf.Small.Bits
import Derived.Shelf.Small.Strs
import Derived.Shelf.Strings.BuilderF
import Derived.Shelf.Strings.BuilderK
import Derived.Shelf.Strconv.Atoi
import Derived.Shelf.Strconv.Itoa0
import Derived.Shelf.Strconv.Itoa1
import Derived.Shelf.LaysM
import Derived.Shelf.Strconv.Itoa2
import Derived.Shelf.Strconv.Itoa3
import Derived.Shelf.Strconv.AtoiErrFast
import Derived.Shelf.Strconv.ParseIntEmpty
import Derived.Shelf.Strconv.AtoiFail
import Derived.Shelf.Strconv.Clone
import Derived.Shelf.Strconv.SyntaxError
import Derived.Shelf.LaysC
import Derived.Shelf.Strconv.ToError
import Derived.Shelf.Strconv.Lower
import Derived.Shelf.Strconv.ParseUint10
import Derived.Shelf.Strconv.ParseUint10Empty
import Derived.Shelf.Strconv.ParseUint10Any
import Derived.Shelf.Strconv.ParseInt10
import Derived.Shelf.Strconv.AtoiLong
import Derived.Shelf.Strconv.AtoiInnerAll
import Derived.Shelf.Strconv.RangeError
import Derived.Shelf.Strconv.ToErrorRange
import Derived.Shelf.Strconv.AtoiAll
import Derived.Shelf.Strings.Search1
import Derived.Shelf.Strings.Search2
import Derived.Shelf.Strings.Search3
import Derived.Shelf.Strings.Cut
import Derived.Shelf.Strings.Count
import Derived.Shelf.Strings.Shaped
import Derived.Shelf.Strings.Split
import Derived.Shelf.Unicode.DecodeSlow
import Derived.Test.YtekogcjdaolcbaaGreatDoorProg
import Derived.Test.YtekogcjdaolcbaaGreatDoorMFnTravelLawF
import Derived.Test.YtekogcjdaolcbaaGreatDoorMFnTravelLawE
import Derived.Test.YtekogcjdaolcbaaGreatDoorMFnTravelLawG
import Derived.Test.YtekogcjdaolcbaaGreatDoorMFnTravelLawD
import Derived.Test.YtekogcjdaolcbaaGreatDoorMFnTravelLawB
import Derived.Test.YtekogcjdaolcbaaGreatDoorMFnTravelLawC

set_option linter.unusedVariables false
set_option linter.unusedSimpArgs false
/-
 DERIVED:THE SHELF's CONTRACTS AT THIS DUMP,IN PLAIN WORDS (tools/lay-plain.mjs out of 'YtekogcjdaolcbaaGreatDoorShelf.lean',which tools/lay-shelf.mjs wrote):THE SAME DECLARATIONS UNDER THE SAME NAMES:'import','namespace','open','def','theorem' AND NOTHING ELSE:no command of the shelf's:FOR A HAND-IN. Each laying:the table of numbers ('.._ren') and one theorem,a field a fact of the dump's own or the kernel's comparison;each contract:ONE APPLICATION.
-/
namespace Go.Proofs.YtekogcjdaolcbaaGreatDoor
open Go.Shelf
def Tryz.lays169_ren:Go.Shelf.Ren:=⟨fun|169=>76|n=>n,fun|70=>103|9=>9|0=>0|72=>105|37=>22|127=>149|3=>3|5=>5|n=>n,fun|n=>n⟩
theorem Tryz.lays169:Go.Proofs.Lays.n169 Tryz.prog Tryz.lays169_ren:= {
 mixed:=by kernel_rfl
 f169:=Tryz.func76.trans (congrArg some (by kernel_rfl))
 t0:=Tryz.underlying0
 a0:=Tryz.isAgg0
 z0:=Tryz.sizeOf0
 v0:=Tryz.zeroValue0
 t3:=Tryz.underlying3
 a3:=Tryz.isAgg3
 z3:=Tryz.sizeOf3
 v3:=Tryz.zeroValue3
 t9:=Tryz.underlying9
 a9:=Tryz.isAgg9
 z9:=Tryz.sizeOf9
 v9:=Tryz.zeroValue9
 t37:=Tryz.underlying22
 a37:=Tryz.isAgg22
 z37:=Tryz.sizeOf22
 v37:=Tryz.zeroValue22
 t70:=Tryz.underlying103
 a70:=Tryz.isAgg103
 z70:=Tryz.sizeOf103
 v70:=Tryz.zeroValue103
 t72:=Tryz.underlying105
 a72:=Tryz.isAgg105
 z72:=Tryz.sizeOf105
 v72:=Tryz.zeroValue105
 t127:=Tryz.underlying149
 a127:=Tryz.isAgg149
 z127:=Tryz.sizeOf149
 v127:=Tryz.zeroValue149}
theorem Tryz.Builder_Extra_169:Builder.Extra Tryz.prog Tryz.lays169_ren:= {
 sizeBuilder:=by kernel_rfl
 liesBuilder:=by kernel_rfl
 t5:=Tryz.underlying5
 a5:=Tryz.isAgg5
 z5:=Tryz.sizeOf5
 v5:=Tryz.zeroValue5
 infoByte:=by kernel_rfl
 cellsByte:=by kernel_rfl
 sizeByte:=by kernel_rfl
 neB5:=by decide}
def Tryz.lays156_ren:Go.Shelf.Ren:=⟨fun|156=>53|165=>116|166=>75|169=>76|240=>132|241=>158|276=>160|277=>174|n=>n,fun|31=>45|9=>9|3=>3|4=>4|0=>0|20=>20|72=>105|76=>108|70=>103|37=>22|75=>107|127=>149|164=>161|5=>5|80=>110|n=>n,fun|n=>n⟩
theorem Tryz.lays156:Go.Proofs.Lays.n156 Tryz.prog Tryz.lays156_ren:= {
 mixed:=by kernel_rfl
 f156:=Tryz.func53.trans (congrArg some (by kernel_rfl))
 f165:=Tryz.func116.trans (congrArg some (by kernel_rfl))
 f166:=Tryz.func75.trans (congrArg some (by kernel_rfl))
 f169:=Tryz.func76.trans (congrArg some (by kernel_rfl))
 f240:=Tryz.func132.trans (congrArg some (by kernel_rfl))
 f241:=Tryz.func158.trans (congrArg some (by kernel_rfl))
 f276:=Tryz.func160.trans (congrArg some (by kernel_rfl))
 f277:=Tryz.func174.trans (congrArg some (by kernel_rfl))
 t0:=Tryz.underlying0
 a0:=Tryz.isAgg0
 z0:=Tryz.sizeOf0
 v0:=Tryz.zeroValue0
 t3:=Tryz.underlying3
 a3:=Tryz.isAgg3
 z3:=Tryz.sizeOf3
 v3:=Tryz.zeroValue3
 t4:=Tryz.underlying4
 a4:=Tryz.isAgg4
 z4:=Tryz.sizeOf4
 v4:=Tryz.zeroValue4
 t9:=Tryz.underlying9
 a9:=Tryz.isAgg9
 z9:=Tryz.sizeOf9
 v9:=Tryz.zeroValue9
 t20:=Tryz.underlying20
 a20:=Tryz.isAgg20
 z20:=Tryz.sizeOf20
 v20:=Tryz.zeroValue20
 t31:=Tryz.underlying45
 a31:=Tryz.isAgg45
 z31:=Tryz.sizeOf45
 v31:=Tryz.zeroValue45
 t37:=Tryz.underlying22
 a37:=Tryz.isAgg22
 z37:=Tryz.sizeOf22
 v37:=Tryz.zeroValue22
 t70:=Tryz.underlying103
 a70:=Tryz.isAgg103
 z70:=Tryz.sizeOf103
 v70:=Tryz.zeroValue103
 t72:=Tryz.underlying105
 a72:=Tryz.isAgg105
 z72:=Tryz.sizeOf105
 v72:=Tryz.zeroValue105
 t75:=Tryz.underlying107
 a75:=Tryz.isAgg107
 z75:=Tryz.sizeOf107
 v75:=Tryz.zeroValue107
 t76:=Tryz.underlying108
 a76:=Tryz.isAgg108
 z76:=Tryz.sizeOf108
 v76:=Tryz.zeroValue108
 t127:=Tryz.underlying149
 a127:=Tryz.isAgg149
 z127:=Tryz.sizeOf149
 v127:=Tryz.zeroValue149
 t164:=Tryz.underlying161
 a164:=Tryz.isAgg161
 z164:=Tryz.sizeOf161
 v164:=Tryz.zeroValue161}
theorem Tryz.Builder_Extra_156:Builder.Extra Tryz.prog Tryz.lays156_ren:= {
 sizeBuilder:=by kernel_rfl
 liesBuilder:=by kernel_rfl
 t5:=Tryz.underlying5
 a5:=Tryz.isAgg5
 z5:=Tryz.sizeOf5
 v5:=Tryz.zeroValue5
 infoByte:=by kernel_rfl
 cellsByte:=by kernel_rfl
 sizeByte:=by kernel_rfl
 neB5:=by decide}
open Go.RowKit in
theorem Tryz.strings_Join (bk o c:Nat) (xs:List ByteArray) (sep:ByteArray) (w:World) (hcells: ∀ (j:Nat) x,xs[j]? =some x→w.cell? ⟨bk,o+j,none⟩=some (.string x)) (hbk:bk<w.heap.size) (hN:xs.length≤140737488355328) (hcap:xs.length≤c) (hlen:(Lib.join (xs.map (·.data.toList)) sep.data.toList).length≤140737488355328) :
  Calls Tryz.prog 53 #[.slice (some ⟨bk,o,none⟩) xs.length c,.string sep] w fun e w'=>e= .returned (.string ⟨(Lib.join (xs.map (·.data.toList)) sep.data.toList).toArray⟩)∧Below w.heap.size w w':=Any.strings_Join Tryz.lays156 Tryz.Builder_Extra_156 bk o c xs sep w hcells hbk hN hcap hlen
def Tryz.lays125_ren:Go.Shelf.Ren:=⟨fun|125=>165|128=>184|129=>185|n=>n,fun|46=>140|3=>3|51=>184|53=>172|4=>4|5=>5|9=>9|n=>n,fun|n=>n⟩
theorem Tryz.lays125:Go.Proofs.Lays.n125 Tryz.prog Tryz.lays125_ren:= {
 mixed:=by kernel_rfl
 f125:=Tryz.func165.trans (congrArg some (by kernel_rfl))
 f128:=Tryz.func184.trans (congrArg some (by kernel_rfl))
 f129:=Tryz.func185.trans (congrArg some (by kernel_rfl))
 t3:=Tryz.underlying3
 a3:=Tryz.isAgg3
 z3:=Tryz.sizeOf3
 v3:=Tryz.zeroValue3
 t4:=Tryz.underlying4
 a4:=Tryz.isAgg4
 z4:=Tryz.sizeOf4
 v4:=Tryz.zeroValue4
 t5:=Tryz.underlying5
 a5:=Tryz.isAgg5
 z5:=Tryz.sizeOf5
 v5:=Tryz.zeroValue5
 t9:=Tryz.underlying9
 a9:=Tryz.isAgg9
 z9:=Tryz.sizeOf9
 v9:=Tryz.zeroValue9
 t46:=Tryz.underlying140
 a46:=Tryz.isAgg140
 z46:=Tryz.sizeOf140
 v46:=Tryz.zeroValue140
 t51:=Tryz.underlying184
 a51:=Tryz.isAgg184
 z51:=Tryz.sizeOf184
 v51:=Tryz.zeroValue184
 t53:=Tryz.underlying172
 a53:=Tryz.isAgg172
 z53:=Tryz.sizeOf172
 v53:=Tryz.zeroValue172}
theorem Tryz.bits_Len (x:Int) (w:World) (h0:0≤x) (h1:x≤18446744073709551615) :
  Calls Tryz.prog 165 #[.int .u64 x] w fun e w'=>e= .returned (.int .i64 (Lib.bitLen x.toNat))∧w'=w:=Any.bits_Len Tryz.lays125 x w h0 h1
def Tryz.lays137_ren:Go.Shelf.Ren:=⟨fun|137=>115|217=>157|266=>173|n=>n,fun|9=>9|5=>5|3=>3|n=>n,fun|n=>n⟩
theorem Tryz.lays137:Go.Proofs.Lays.n137 Tryz.prog Tryz.lays137_ren:= {
 mixed:=by kernel_rfl
 f137:=Tryz.func115.trans (congrArg some (by kernel_rfl))
 f217:=Tryz.func157.trans (congrArg some (by kernel_rfl))
 f266:=Tryz.func173.trans (congrArg some (by kernel_rfl))
 t3:=Tryz.underlying3
 a3:=Tryz.isAgg3
 z3:=Tryz.sizeOf3
 v3:=Tryz.zeroValue3
 t5:=Tryz.underlying5
 a5:=Tryz.isAgg5
 z5:=Tryz.sizeOf5
 v5:=Tryz.zeroValue5
 t9:=Tryz.underlying9
 a9:=Tryz.isAgg9
 z9:=Tryz.sizeOf9
 v9:=Tryz.zeroValue9}
open Go.RowKit in
theorem Tryz.strings_IndexByte (s:ByteArray) (c:Int) (w:World) :
  Calls Tryz.prog 115 #[.string s,.int .u8 c] w fun e w'=>e= .returned (.int .i64 (Lib.indexByte s.data.toList c.toNat.toUInt8))∧w'=w:=Any.strings_IndexByte Tryz.lays137 s c w
open Go.RowKit in
theorem Tryz.Builder_String_any_f (B b:Nat) (l:List UInt8) (w:World) (h:Lib.IsBuilderF 105 5 B b (Lib.byteCells l) w) (hBw:B≤w.heap.size) :
  Calls Tryz.prog 76 #[.pointer (some ⟨b,0,none⟩)] w fun e w'=>e= .returned (.string ⟨l.toArray⟩)∧(Lib.IsBuilderF 105 5 B b (Lib.byteCells l) w'∧Below B w w'):=Any.Builder_String_any_f Tryz.lays169 Tryz.Builder_Extra_169 B b l w h hBw
def Tryz.laysM171_ren:Go.Shelf.Ren:=⟨fun|171=>80|243=>133|246=>161|283=>175|284=>176|285=>177|286=>178|129=>185|317=>190|318=>191|319=>192|320=>193|337=>198|338=>199|n=>n,fun|3=>3|9=>9|2=>2|4=>4|171=>171|0=>0|53=>172|37=>22|5=>5|173=>175|212=>186|51=>184|20=>20|213=>187|46=>140|232=>203|233=>204|n=>n,fun|17=>1|18=>6|19=>7|n=>n⟩
theorem Tryz.laysM171:Go.Proofs.LaysM.n171 Tryz.prog Tryz.laysM171_ren:= {
 mixed:=by kernel_rfl
 f129:=Tryz.func185.trans (congrArg some (by kernel_rfl))
 f171:=Tryz.func80.trans (congrArg some (by kernel_rfl))
 f243:=Tryz.func133.trans (congrArg some (by kernel_rfl))
 f246:=Tryz.func161.trans (congrArg some (by kernel_rfl))
 f283:=Tryz.func175.trans (congrArg some (by kernel_rfl))
 f284:=Tryz.func176.trans (congrArg some (by kernel_rfl))
 f285:=Tryz.func177.trans (congrArg some (by kernel_rfl))
 f286:=Tryz.func178.trans (congrArg some (by kernel_rfl))
 f317:=Tryz.func190.trans (congrArg some (by kernel_rfl))
 f318:=Tryz.func191.trans (congrArg some (by kernel_rfl))
 f319:=Tryz.func192.trans (congrArg some (by kernel_rfl))
 f320:=Tryz.func193.trans (congrArg some (by kernel_rfl))
 f337:=Tryz.func198.trans (congrArg some (by kernel_rfl))
 f338:=Tryz.func199.trans (congrArg some (by kernel_rfl))
 t0:=Tryz.underlying0
 a0:=Tryz.isAgg0
 z0:=Tryz.sizeOf0
 v0:=Tryz.zeroValue0
 t2:=Tryz.underlying2
 a2:=Tryz.isAgg2
 z2:=Tryz.sizeOf2
 v2:=Tryz.zeroValue2
 t3:=Tryz.underlying3
 a3:=Tryz.isAgg3
 z3:=Tryz.sizeOf3
 v3:=Tryz.zeroValue3
 t4:=Tryz.underlying4
 a4:=Tryz.isAgg4
 z4:=Tryz.sizeOf4
 v4:=Tryz.zeroValue4
 t5:=Tryz.underlying5
 a5:=Tryz.isAgg5
 z5:=Tryz.sizeOf5
 v5:=Tryz.zeroValue5
 t9:=Tryz.underlying9
 a9:=Tryz.isAgg9
 z9:=Tryz.sizeOf9
 v9:=Tryz.zeroValue9
 t20:=Tryz.underlying20
 a20:=Tryz.isAgg20
 z20:=Tryz.sizeOf20
 v20:=Tryz.zeroValue20
 t37:=Tryz.underlying22
 a37:=Tryz.isAgg22
 z37:=Tryz.sizeOf22
 v37:=Tryz.zeroValue22
 t46:=Tryz.underlying140
 a46:=Tryz.isAgg140
 z46:=Tryz.sizeOf140
 v46:=Tryz.zeroValue140
 t51:=Tryz.underlying184
 a51:=Tryz.isAgg184
 z51:=Tryz.sizeOf184
 v51:=Tryz.zeroValue184
 t53:=Tryz.underlying172
 a53:=Tryz.isAgg172
 z53:=Tryz.sizeOf172
 v53:=Tryz.zeroValue172
 t171:=Tryz.underlying171
 a171:=Tryz.isAgg171
 z171:=Tryz.sizeOf171
 v171:=Tryz.zeroValue171
 t173:=Tryz.underlying175
 a173:=Tryz.isAgg175
 z173:=Tryz.sizeOf175
 v173:=Tryz.zeroValue175
 t212:=Tryz.underlying186
 a212:=Tryz.isAgg186
 z212:=Tryz.sizeOf186
 v212:=Tryz.zeroValue186
 t213:=Tryz.underlying187
 a213:=Tryz.isAgg187
 z213:=Tryz.sizeOf187
 t232:=Tryz.underlying203
 a232:=Tryz.isAgg203
 z232:=Tryz.sizeOf203
 v232:=Tryz.zeroValue203
 t233:=Tryz.underlying204
 a233:=Tryz.isAgg204
 z233:=Tryz.sizeOf204
 v233:=Tryz.zeroValue204
 g17:=by kernel_rfl
 g18:=by kernel_rfl
 g19:=by kernel_rfl
 i0:=by kernel_rfl
 i2:=by kernel_rfl
 i3:=by kernel_rfl
 i4:=by kernel_rfl
 i5:=by kernel_rfl
 i9:=by kernel_rfl
 i20:=by kernel_rfl
 i37:=by kernel_rfl
 i46:=by kernel_rfl
 i51:=by kernel_rfl
 i53:=by kernel_rfl
 i171:=by kernel_rfl
 i173:=by kernel_rfl
 i212:=by kernel_rfl
 i232:=by kernel_rfl
 i233:=by kernel_rfl
 m17:=by kernel_rfl
 m18:=by kernel_rfl
 m19:=by kernel_rfl}
open Go.RowKit Go.Sort Go.Lib in
theorem Tryz.strconv_Itoa (n : Int) (h0 : -9223372036854775808 ≤ n) (h1 : n ≤ 9223372036854775807) (w : World) (htab : Lib.TabIs Tryz.prog w "internal/strconv.uint64pow10" .u64 Lib.pow10Tab) :
  Calls Tryz.prog 80 #[.int .i64 n] w fun e w'=>e= .returned (.string ⟨(Lib.itoa n).toArray⟩)∧ ∃ k os,w'=grow (w.drewN k) os:=Any.strconv_Itoa Tryz.laysM171 n h0 h1 w htab
def Tryz.laysC172_ren:Go.Shelf.Ren:=⟨fun|172=>134|244=>162|245=>163|247=>179|279=>180|280=>181|281=>182|282=>183|287=>194|316=>195|171=>80|205=>196|321=>200|322=>201|243=>133|246=>161|283=>175|284=>176|285=>177|286=>178|129=>185|317=>190|318=>191|319=>192|320=>193|337=>198|338=>199|n=>n,fun|9=>9|3=>3|75=>107|76=>108|4=>4|5=>5|167=>177|37=>22|0=>0|85=>178|2=>2|168=>180|53=>172|175=>188|46=>140|210=>191|127=>149|145=>202|143=>200|21=>21|171=>171|173=>175|212=>186|51=>184|20=>20|213=>187|232=>203|233=>204|80=>110|n=>n,fun|15=>2|16=>3|17=>1|18=>6|19=>7|n=>n⟩
theorem Tryz.laysC172:Go.Proofs.LaysC.n172 Tryz.prog Tryz.laysC172_ren:= {
 mixed:=by kernel_rfl
 f129:=Tryz.func185.trans (congrArg some (by kernel_rfl))
 f171:=Tryz.func80.trans (congrArg some (by kernel_rfl))
 f172:=Tryz.func134.trans (congrArg some (by kernel_rfl))
 f205:=Tryz.func196.trans (congrArg some (by kernel_rfl))
 f243:=Tryz.func133.trans (congrArg some (by kernel_rfl))
 f244:=Tryz.func162.trans (congrArg some (by kernel_rfl))
 f245:=Tryz.func163.trans (congrArg some (by kernel_rfl))
 f246:=Tryz.func161.trans (congrArg some (by kernel_rfl))
 f247:=Tryz.func179.trans (congrArg some (by kernel_rfl))
 f279:=Tryz.func180.trans (congrArg some (by kernel_rfl))
 f280:=Tryz.func181.trans (congrArg some (by kernel_rfl))
 f281:=Tryz.func182.trans (congrArg some (by kernel_rfl))
 f282:=Tryz.func183.trans (congrArg some (by kernel_rfl))
 f283:=Tryz.func175.trans (congrArg some (by kernel_rfl))
 f284:=Tryz.func176.trans (congrArg some (by kernel_rfl))
 f285:=Tryz.func177.trans (congrArg some (by kernel_rfl))
 f286:=Tryz.func178.trans (congrArg some (by kernel_rfl))
 f287:=Tryz.func194.trans (congrArg some (by kernel_rfl))
 f316:=Tryz.func195.trans (congrArg some (by kernel_rfl))
 f317:=Tryz.func190.trans (congrArg some (by kernel_rfl))
 f318:=Tryz.func191.trans (congrArg some (by kernel_rfl))
 f319:=Tryz.func192.trans (congrArg some (by kernel_rfl))
 f320:=Tryz.func193.trans (congrArg some (by kernel_rfl))
 f321:=Tryz.func200.trans (congrArg some (by kernel_rfl))
 f322:=Tryz.func201.trans (congrArg some (by kernel_rfl))
 f337:=Tryz.func198.trans (congrArg some (by kernel_rfl))
 f338:=Tryz.func199.trans (congrArg some (by kernel_rfl))
 t0:=Tryz.underlying0
 a0:=Tryz.isAgg0
 z0:=Tryz.sizeOf0
 v0:=Tryz.zeroValue0
 t2:=Tryz.underlying2
 a2:=Tryz.isAgg2
 z2:=Tryz.sizeOf2
 v2:=Tryz.zeroValue2
 t3:=Tryz.underlying3
 a3:=Tryz.isAgg3
 z3:=Tryz.sizeOf3
 v3:=Tryz.zeroValue3
 t4:=Tryz.underlying4
 a4:=Tryz.isAgg4
 z4:=Tryz.sizeOf4
 v4:=Tryz.zeroValue4
 t5:=Tryz.underlying5
 a5:=Tryz.isAgg5
 z5:=Tryz.sizeOf5
 v5:=Tryz.zeroValue5
 t9:=Tryz.underlying9
 a9:=Tryz.isAgg9
 z9:=Tryz.sizeOf9
 v9:=Tryz.zeroValue9
 t20:=Tryz.underlying20
 a20:=Tryz.isAgg20
 z20:=Tryz.sizeOf20
 v20:=Tryz.zeroValue20
 t21:=Tryz.underlying21
 a21:=Tryz.isAgg21
 z21:=Tryz.sizeOf21
 v21:=Tryz.zeroValue21
 t37:=Tryz.underlying22
 a37:=Tryz.isAgg22
 z37:=Tryz.sizeOf22
 v37:=Tryz.zeroValue22
 t46:=Tryz.underlying140
 a46:=Tryz.isAgg140
 z46:=Tryz.sizeOf140
 v46:=Tryz.zeroValue140
 t51:=Tryz.underlying184
 a51:=Tryz.isAgg184
 z51:=Tryz.sizeOf184
 v51:=Tryz.zeroValue184
 t53:=Tryz.underlying172
 a53:=Tryz.isAgg172
 z53:=Tryz.sizeOf172
 v53:=Tryz.zeroValue172
 t75:=Tryz.underlying107
 a75:=Tryz.isAgg107
 z75:=Tryz.sizeOf107
 v75:=Tryz.zeroValue107
 t76:=Tryz.underlying108
 a76:=Tryz.isAgg108
 z76:=Tryz.sizeOf108
 v76:=Tryz.zeroValue108
 t85:=Tryz.underlying178
 a85:=Tryz.isAgg178
 z85:=Tryz.sizeOf178
 v85:=Tryz.zeroValue178
 t127:=Tryz.underlying149
 a127:=Tryz.isAgg149
 z127:=Tryz.sizeOf149
 v127:=Tryz.zeroValue149
 t143:=Tryz.underlying200
 a143:=Tryz.isAgg200
 z143:=Tryz.sizeOf200
 v143:=Tryz.zeroValue200
 t145:=Tryz.underlying202
 a145:=Tryz.isAgg202
 z145:=Tryz.sizeOf202
 v145:=Tryz.zeroValue202
 t167:=Tryz.underlying177
 a167:=Tryz.isAgg177
 z167:=Tryz.sizeOf177
 v167:=Tryz.zeroValue177
 t168:=Tryz.underlying180
 a168:=Tryz.isAgg180
 z168:=Tryz.sizeOf180
 v168:=Tryz.zeroValue180
 t171:=Tryz.underlying171
 a171:=Tryz.isAgg171
 z171:=Tryz.sizeOf171
 v171:=Tryz.zeroValue171
 t173:=Tryz.underlying175
 a173:=Tryz.isAgg175
 z173:=Tryz.sizeOf175
 v173:=Tryz.zeroValue175
 t175:=Tryz.underlying188
 a175:=Tryz.isAgg188
 z175:=Tryz.sizeOf188
 v175:=Tryz.zeroValue188
 t210:=Tryz.underlying191
 a210:=Tryz.isAgg191
 z210:=Tryz.sizeOf191
 v210:=Tryz.zeroValue191
 t212:=Tryz.underlying186
 a212:=Tryz.isAgg186
 z212:=Tryz.sizeOf186
 v212:=Tryz.zeroValue186
 t213:=Tryz.underlying187
 a213:=Tryz.isAgg187
 z213:=Tryz.sizeOf187
 t232:=Tryz.underlying203
 a232:=Tryz.isAgg203
 z232:=Tryz.sizeOf203
 v232:=Tryz.zeroValue203
 t233:=Tryz.underlying204
 a233:=Tryz.isAgg204
 z233:=Tryz.sizeOf204
 v233:=Tryz.zeroValue204
 g15:=by kernel_rfl
 g16:=by kernel_rfl
 g17:=by kernel_rfl
 g18:=by kernel_rfl
 g19:=by kernel_rfl
 t80:=Tryz.underlying110
 a80:=Tryz.isAgg110
 z80:=Tryz.sizeOf110
 v80:=Tryz.zeroValue110
 i0:=by kernel_rfl
 i2:=by kernel_rfl
 i3:=by kernel_rfl
 i4:=by kernel_rfl
 i5:=by kernel_rfl
 i9:=by kernel_rfl
 i20:=by kernel_rfl
 i21:=by kernel_rfl
 i37:=by kernel_rfl
 i46:=by kernel_rfl
 i51:=by kernel_rfl
 i53:=by kernel_rfl
 i75:=by kernel_rfl
 i76:=by kernel_rfl
 i80:=by kernel_rfl
 i85:=by kernel_rfl
 i127:=by kernel_rfl
 i143:=by kernel_rfl
 i145:=by kernel_rfl
 i167:=by kernel_rfl
 i168:=by kernel_rfl
 i171:=by kernel_rfl
 i173:=by kernel_rfl
 i175:=by kernel_rfl
 i210:=by kernel_rfl
 i212:=by kernel_rfl
 i232:=by kernel_rfl
 i233:=by kernel_rfl
 m15:=by kernel_rfl
 m16:=by kernel_rfl
 m17:=by kernel_rfl
 m18:=by kernel_rfl
 m19:=by kernel_rfl
 c0:=by kernel_rfl
 c2:=by kernel_rfl
 c3:=by kernel_rfl
 c4:=by kernel_rfl
 c5:=by kernel_rfl
 c9:=by kernel_rfl
 c20:=by kernel_rfl
 c21:=by kernel_rfl
 c37:=by kernel_rfl
 c46:=by kernel_rfl
 c51:=by kernel_rfl
 c53:=by kernel_rfl
 c75:=by kernel_rfl
 c76:=by kernel_rfl
 c80:=by kernel_rfl
 c85:=by kernel_rfl
 c127:=by kernel_rfl
 c143:=by kernel_rfl
 c145:=by kernel_rfl
 c167:=by kernel_rfl
 c168:=by kernel_rfl
 c171:=by kernel_rfl
 c173:=by kernel_rfl
 c175:=by kernel_rfl
 c210:=by kernel_rfl
 c212:=by kernel_rfl
 c213:=by kernel_rfl
 c232:=by kernel_rfl
 c233:=by kernel_rfl}
open Go.RowKit in
theorem Tryz.strconv_Atoi_ok (s:ByteArray) (hmax:s.size≤9223372036854775806) (v:Int) (h:Lib.atoiAll s.data.toList= .ok v) (w:World) :
  Calls Tryz.prog 134 #[.string s] w fun e w'=>e= .returned (.tuple #[.int .i64 v,.nilIface])∧(w'=w∨ ∃ t,w'=Lib.bytesWorld w 5 t):=Any.strconv_Atoi_ok Tryz.laysC172 s hmax v h w
open Go.RowKit in
theorem Tryz.strconv_Atoi_range (s:ByteArray) (hlim:s.size≤281474976710656) (h:Lib.atoiAll s.data.toList= .range) (ev:Value) (w:World) (hv:w.cell? ⟨3,0,none⟩=some ev) (hev:ev= .nilIface∨ ∃ te pe,ev= .iface te pe) :
  Calls Tryz.prog 134 #[.string s] w fun e w'=> ∃ N,e= .returned (.tuple #[.int .i64 (Lib.atoiSat s.data.toList),.iface 180 (.pointer (some ⟨N,0,none⟩))])∧w.heap.size≤N∧w'.heap[N]? =some (.cells #[.string ⟨#[65,116,111,105]⟩,.string s,ev] 191 (0,0))∧Below w.heap.size w w':=Any.strconv_Atoi_range Tryz.laysC172 s hlim h ev w hv hev
def Tryz.lays145_ren:Go.Shelf.Ren:=⟨fun|145=>156|220=>172|219=>171|217=>157|225=>187|224=>188|267=>189|266=>173|314=>197|n=>n,fun|9=>9|4=>4|59=>159|3=>3|5=>5|46=>140|146=>197|51=>184|n=>n,fun|1=>0|n=>n⟩
theorem Tryz.lays145:Go.Proofs.Lays.n145 Tryz.prog Tryz.lays145_ren:= {
 mixed:=by kernel_rfl
 f145:=Tryz.func156.trans (congrArg some (by kernel_rfl))
 f217:=Tryz.func157.trans (congrArg some (by kernel_rfl))
 f219:=Tryz.func171.trans (congrArg some (by kernel_rfl))
 f220:=Tryz.func172.trans (congrArg some (by kernel_rfl))
 f224:=Tryz.func188.trans (congrArg some (by kernel_rfl))
 f225:=Tryz.func187.trans (congrArg some (by kernel_rfl))
 f266:=Tryz.func173.trans (congrArg some (by kernel_rfl))
 f267:=Tryz.func189.trans (congrArg some (by kernel_rfl))
 f314:=Tryz.func197.trans (congrArg some (by kernel_rfl))
 t3:=Tryz.underlying3
 a3:=Tryz.isAgg3
 z3:=Tryz.sizeOf3
 v3:=Tryz.zeroValue3
 t4:=Tryz.underlying4
 a4:=Tryz.isAgg4
 z4:=Tryz.sizeOf4
 v4:=Tryz.zeroValue4
 t5:=Tryz.underlying5
 a5:=Tryz.isAgg5
 z5:=Tryz.sizeOf5
 v5:=Tryz.zeroValue5
 t9:=Tryz.underlying9
 a9:=Tryz.isAgg9
 z9:=Tryz.sizeOf9
 v9:=Tryz.zeroValue9
 t46:=Tryz.underlying140
 a46:=Tryz.isAgg140
 z46:=Tryz.sizeOf140
 v46:=Tryz.zeroValue140
 t51:=Tryz.underlying184
 a51:=Tryz.isAgg184
 z51:=Tryz.sizeOf184
 v51:=Tryz.zeroValue184
 t59:=Tryz.underlying159
 a59:=Tryz.isAgg159
 z59:=Tryz.sizeOf159
 v59:=Tryz.zeroValue159
 t146:=Tryz.underlying197
 a146:=Tryz.isAgg197
 z146:=Tryz.sizeOf197
 v146:=Tryz.zeroValue197
 g1:=by kernel_rfl}
open Go.RowKit Go.Lib in
theorem Tryz.strings_Cut (s sep:ByteArray) (m:Int) (w:World) (hs:s.size<4294967281) (hm:w.cell? ⟨0,0,none⟩=some (.int .i64 m)) :
  Calls Tryz.prog 156 #[.string s,.string sep] w fun e w'=>e= .returned (.tuple #[.string ⟨(Lib.cut s.data.toList sep.data.toList).1.toArray⟩,.string ⟨(Lib.cut s.data.toList sep.data.toList).2.1.toArray⟩,.bool (Lib.cut s.data.toList sep.data.toList).2.2])∧ ∃ n,w'=w.drewN n:=Any.strings_Cut Tryz.lays145 s sep m w hs hm
def Tryz.lays146_ren:Go.Shelf.Ren:=⟨fun|146=>49|221=>112|268=>153|138=>154|143=>155|195=>168|197=>169|218=>170|219=>171|260=>186|217=>157|225=>187|224=>188|267=>189|266=>173|314=>197|n=>n,fun|9=>9|31=>45|3=>3|4=>4|0=>0|105=>168|21=>21|5=>5|46=>140|119=>193|139=>196|138=>195|146=>197|51=>184|n=>n,fun|1=>0|3=>4|4=>5|n=>n⟩
theorem Tryz.lays146:Go.Proofs.Lays.n146 Tryz.prog Tryz.lays146_ren:= {
 mixed:=by kernel_rfl
 f138:=Tryz.func154.trans (congrArg some (by kernel_rfl))
 f143:=Tryz.func155.trans (congrArg some (by kernel_rfl))
 f146:=Tryz.func49.trans (congrArg some (by kernel_rfl))
 f195:=Tryz.func168.trans (congrArg some (by kernel_rfl))
 f197:=Tryz.func169.trans (congrArg some (by kernel_rfl))
 f217:=Tryz.func157.trans (congrArg some (by kernel_rfl))
 f218:=Tryz.func170.trans (congrArg some (by kernel_rfl))
 f219:=Tryz.func171.trans (congrArg some (by kernel_rfl))
 f221:=Tryz.func112.trans (congrArg some (by kernel_rfl))
 f224:=Tryz.func188.trans (congrArg some (by kernel_rfl))
 f225:=Tryz.func187.trans (congrArg some (by kernel_rfl))
 f260:=Tryz.func186.trans (congrArg some (by kernel_rfl))
 f266:=Tryz.func173.trans (congrArg some (by kernel_rfl))
 f267:=Tryz.func189.trans (congrArg some (by kernel_rfl))
 f268:=Tryz.func153.trans (congrArg some (by kernel_rfl))
 f314:=Tryz.func197.trans (congrArg some (by kernel_rfl))
 t0:=Tryz.underlying0
 a0:=Tryz.isAgg0
 z0:=Tryz.sizeOf0
 v0:=Tryz.zeroValue0
 t3:=Tryz.underlying3
 a3:=Tryz.isAgg3
 z3:=Tryz.sizeOf3
 v3:=Tryz.zeroValue3
 t4:=Tryz.underlying4
 a4:=Tryz.isAgg4
 z4:=Tryz.sizeOf4
 v4:=Tryz.zeroValue4
 t5:=Tryz.underlying5
 a5:=Tryz.isAgg5
 z5:=Tryz.sizeOf5
 v5:=Tryz.zeroValue5
 t9:=Tryz.underlying9
 a9:=Tryz.isAgg9
 z9:=Tryz.sizeOf9
 v9:=Tryz.zeroValue9
 t21:=Tryz.underlying21
 a21:=Tryz.isAgg21
 z21:=Tryz.sizeOf21
 v21:=Tryz.zeroValue21
 t31:=Tryz.underlying45
 a31:=Tryz.isAgg45
 z31:=Tryz.sizeOf45
 v31:=Tryz.zeroValue45
 t46:=Tryz.underlying140
 a46:=Tryz.isAgg140
 z46:=Tryz.sizeOf140
 v46:=Tryz.zeroValue140
 t51:=Tryz.underlying184
 a51:=Tryz.isAgg184
 z51:=Tryz.sizeOf184
 v51:=Tryz.zeroValue184
 t105:=Tryz.underlying168
 a105:=Tryz.isAgg168
 z105:=Tryz.sizeOf168
 v105:=Tryz.zeroValue168
 t119:=Tryz.underlying193
 a119:=Tryz.isAgg193
 z119:=Tryz.sizeOf193
 t138:=Tryz.underlying195
 a138:=Tryz.isAgg195
 z138:=Tryz.sizeOf195
 v138:=Tryz.zeroValue195
 t139:=Tryz.underlying196
 a139:=Tryz.isAgg196
 z139:=Tryz.sizeOf196
 v139:=Tryz.zeroValue196
 t146:=Tryz.underlying197
 a146:=Tryz.isAgg197
 z146:=Tryz.sizeOf197
 v146:=Tryz.zeroValue197
 g1:=by kernel_rfl
 g3:=by kernel_rfl
 g4:=by kernel_rfl}
open Go.RowKit Go.Lib in
theorem Tryz.strings_Split (s sep:ByteArray) (m:Int) (w:World) (hs:s.size<4294967281) (hm:w.cell? ⟨0,0,none⟩=some (.int .i64 m)) (h1:1≤sep.size) :
  Calls Tryz.prog 49 #[.string s,.string sep] w fun e w' =>
   e= .returned (.slice (some ⟨w.heap.size,0,none⟩) (Lib.countB s sep+1) (Lib.countB s sep+1))∧w'=w.alloc (.cells ((Lib.splitB sep 0 (Lib.countB s sep) s).map Value.string).toArray 9):=Any.strings_Split Tryz.lays146 (by kernel_rfl) s sep m w hs hm h1
def Tryz.lRev_ren:Go.Shelf.Ren:=⟨fun|35=>164|n=>n,fun|22=>22|23=>5|3=>3|4=>4|0=>0|n=>n,fun|n=>n⟩
theorem Tryz.lRev:Go.Proofs.SlLaysE.n35 Tryz.prog Tryz.lRev_ren:= {
 mixed:=by kernel_rfl
 f35:=⟨Tryz.f164.name,by decide,Tryz.func164.trans (congrArg some (by kernel_rfl))⟩
 t0:=Tryz.underlying0
 a0:=Tryz.isAgg0
 z0:=Tryz.sizeOf0
 v0:=Tryz.zeroValue0
 t3:=Tryz.underlying3
 a3:=Tryz.isAgg3
 z3:=Tryz.sizeOf3
 v3:=Tryz.zeroValue3
 t4:=Tryz.underlying4
 a4:=Tryz.isAgg4
 z4:=Tryz.sizeOf4
 v4:=Tryz.zeroValue4
 t22:=Tryz.underlying22
 a22:=Tryz.isAgg22
 z22:=Tryz.sizeOf22
 v22:=Tryz.zeroValue22
 a23:=Tryz.isAgg5
 z23:=Tryz.sizeOf5}
end Go.Proofs.YtekogcjdaolcbaaGreatDoor
/- Walks of the program's small functions on codes and on what is known. Conditions: as each says. -/
namespace Go.Proofs.YtekogcjdaolcbaaGreatDoor
open Go Go.RowKit
set_option maxRecDepth 100000 in
set_option maxHeartbeats 1000000 in
theorem hasI_any (s:SetD) (n:Nat) (x:Int) (w:World) (h:setOk s=true) (hn:n≤1073741824) :
  Calls Tryz.prog 120  #[setV s,.int .i64 n,.int .i64 x] w (Same (.bool (codeOk (clr s) n x)) w):=by
 have cC:=fun w=>clearI_any s w h
 have cE:=fun w=>endI_any s w h
 obtain ⟨hb1,hb2,hb3⟩:=clr_le h
 generalize clr s=c at *
 obtain ⟨o,l,m⟩:=s
 simp only [setV] at *
 clear h
 by_cases h0:0≤x
 ·by_cases h1:x<c
  ·rw [show codeOk c n x=true by rw [codeOk_iff];omega]
   go_enter Tryz.func120,Tryz.ntmps120
   go_wp2_with (first|(go_at_call 58;(with_reducible refine (cE _).mono ?_);rintro e w1 ⟨rfl,U1⟩;have B1:=bcell U1;have Z1:=U1.size;(try simp at Z1);(try rw [Nat.add_one_le_iff] at Z1))|(go_at_call 40;(with_reducible refine (cC _).mono ?_);rintro e w2 ⟨rfl,U2⟩;have B2:=bcell U2;have Z2:=U2.size;(try simp at Z2);(try rw [Nat.add_one_le_iff] at Z2)))
   go_ret
   refine ⟨ret_bool (by first|rfl|(simp;done)|(simp;omega)),?_⟩
   (repeat (first|exact Up.refl _|refine Up.alloc ?_ _|refine Up.trans ?_ (by with_reducible assumption)))
  ·by_cases h2:(c:Int)+1<x
   ·by_cases h3:x≤c+1+n
    ·rw [show codeOk c n x=true by rw [codeOk_iff];omega]
     go_enter Tryz.func120,Tryz.ntmps120
     go_wp2_with (first|(go_at_call 58;(with_reducible refine (cE _).mono ?_);rintro e w1 ⟨rfl,U1⟩;have B1:=bcell U1;have Z1:=U1.size;(try simp at Z1);(try rw [Nat.add_one_le_iff] at Z1))|(go_at_call 40;(with_reducible refine (cC _).mono ?_);rintro e w2 ⟨rfl,U2⟩;have B2:=bcell U2;have Z2:=U2.size;(try simp at Z2);(try rw [Nat.add_one_le_iff] at Z2)))
     go_ret
     refine ⟨ret_bool (by first|rfl|(simp;done)|(simp;omega)),?_⟩
     (repeat (first|exact Up.refl _|refine Up.alloc ?_ _|refine Up.trans ?_ (by with_reducible assumption)))
    ·rw [show codeOk c n x=false by rw [← Bool.not_eq_true,codeOk_iff];omega]
     go_enter Tryz.func120,Tryz.ntmps120
     go_wp2_with (first|(go_at_call 58;(with_reducible refine (cE _).mono ?_);rintro e w1 ⟨rfl,U1⟩;have B1:=bcell U1;have Z1:=U1.size;(try simp at Z1);(try rw [Nat.add_one_le_iff] at Z1))|(go_at_call 40;(with_reducible refine (cC _).mono ?_);rintro e w2 ⟨rfl,U2⟩;have B2:=bcell U2;have Z2:=U2.size;(try simp at Z2);(try rw [Nat.add_one_le_iff] at Z2)))
     go_ret
     refine ⟨ret_bool (by first|rfl|(simp;done)|(simp;omega)),?_⟩
     (repeat (first|exact Up.refl _|refine Up.alloc ?_ _|refine Up.trans ?_ (by with_reducible assumption)))
   ·rw [show codeOk c n x=false by rw [← Bool.not_eq_true,codeOk_iff];omega]
    go_enter Tryz.func120,Tryz.ntmps120
    go_wp2_with (first|(go_at_call 58;(with_reducible refine (cE _).mono ?_);rintro e w1 ⟨rfl,U1⟩;have B1:=bcell U1;have Z1:=U1.size;(try simp at Z1);(try rw [Nat.add_one_le_iff] at Z1))|(go_at_call 40;(with_reducible refine (cC _).mono ?_);rintro e w2 ⟨rfl,U2⟩;have B2:=bcell U2;have Z2:=U2.size;(try simp at Z2);(try rw [Nat.add_one_le_iff] at Z2)))
    go_ret
    refine ⟨ret_bool (by first|rfl|(simp;done)|(simp;omega)),?_⟩
    (repeat (first|exact Up.refl _|refine Up.alloc ?_ _|refine Up.trans ?_ (by with_reducible assumption)))
 ·have h2: ¬ (c:Int)+1<x:=by omega
  rw [show codeOk c n x=false by rw [← Bool.not_eq_true,codeOk_iff];omega]
  go_enter Tryz.func120,Tryz.ntmps120
  go_wp2_with (first|(go_at_call 58;(with_reducible refine (cE _).mono ?_);rintro e w1 ⟨rfl,U1⟩;have B1:=bcell U1;have Z1:=U1.size;(try simp at Z1);(try rw [Nat.add_one_le_iff] at Z1))|(go_at_call 40;(with_reducible refine (cC _).mono ?_);rintro e w2 ⟨rfl,U2⟩;have B2:=bcell U2;have Z2:=U2.size;(try simp at Z2);(try rw [Nat.add_one_le_iff] at Z2)))
  go_ret
  refine ⟨ret_bool (by first|rfl|(simp;done)|(simp;omega)),?_⟩
  (repeat (first|exact Up.refl _|refine Up.alloc ?_ _|refine Up.trans ?_ (by with_reducible assumption)))
set_option maxRecDepth 100000 in
set_option maxHeartbeats 1000000 in
theorem copyI_any (k:KnD) (v:Value) (lo:Nat) (w:World) (hr:RdP lo w v k.ps) (hl:k.ps.length≤1048576) :
  Calls Tryz.prog 35  #[kV k v] w (KnPost k w):=by
 have hrt:=fun (wq:World) (hu:Up w wq)=>hr.up hu
 obtain ⟨a,cap,rfl,-,-,-,-⟩:=hr
 simp only [kV]
 go_enter Tryz.func35,Tryz.ntmps35
 go_wp2_with (at_builtin;refine wpList_copy rfl _ _ rfl rfl rfl (hrt _ (by (repeat (first|with_reducible exact Up.refl _|with_reducible assumption|with_reducible refine Up.set ?_ (by first|exact Nat.le_refl _|(simp only [];omega)|(simp;omega)) _|with_reducible refine Up.alloc ?_ _|refine Up.trans ?_ (by with_reducible assumption))))) hl ?_;rintro v2 w2 hv2 hU2;obtain ⟨a2,c2,rfl⟩:=ownsRow_shape hv2;obtain ⟨hb0,r0,r1,r2,r3,r4,r5⟩:=KnAt.cells (b:=w.heap.size) (k:=k) (v:= .slice a k.ps.length cap) (box_up hU2 (box_up ((Up.refl _).alloc _) (MapKept.heap_alloc w _).1));have hf0:=box_free (box_up hU2 (box_up ((Up.refl _).alloc _) (MapKept.heap_alloc w _).1));obtain ⟨hb1,q0,q1,q2,q3,q4,q5⟩:=KnAt.cells (b:=w.heap.size+1) (k:=⟨⟨0,0,0⟩,[],0,0⟩) (v:= .slice none 0 0) (box_up hU2 (alloc2 w _ _));have hf1:=box_free (box_up hU2 (alloc2 w _ _));have hs2:=hU2.size;simp at hs2;have HV:=Lib.hid hv2;clear hv2)
 refine bodyPost_ret (v:=kV k (.slice a2 k.ps.length c2)) (by simp [results,Tryz.results35,go_sem,q0,q1,q2,q3,q4,q5]) rfl ⟨_,rfl,?_,?_⟩
 ·refine ownsRow_base (base:=w.heap.size+2) ?_ (by omega)
  repeat (with_reducible refine ownsRow_setne ?_ (by omega) _ _)
  exact ownsRow_base HV.out (by simp)
 ·(repeat (first|with_reducible exact Up.refl _|with_reducible assumption|with_reducible refine Up.set ?_ (by first|exact Nat.le_refl _|(simp only [];omega)|(simp;omega)) _|with_reducible refine Up.alloc ?_ _|refine Up.trans ?_ (by with_reducible assumption)))
set_option maxRecDepth 100000 in
set_option maxHeartbeats 4000000 in
theorem kvI_any (k:KnD) (v:Value) (lo:Nat) (w:World) (h:k.Ok) (hv:k.last= -1→k.base=k.ps.length) (hr:RdP lo w v k.ps) :
  Calls Tryz.prog 64  #[kV k v] w (Same (.bool true) w):=by
 obtain ⟨hb1,hb2,hb3,hb4,hb5⟩:=h.nums
 have cS:=fun w=>setI_ok k.set w h.set
 have cL:=fun w=>lastI_any k.set w h.set
 have cE:=fun w=>endI_any k.set w h.set
 have cC:=fun w=>clearI_any k.set w h.set
 have cK:=fun x n w hn=>hasI_any k.set n x w h.set hn
 have hba0:=h.base0
 have hba1:=h.base1
 have HK:=Lib.hid h
 have hrt:=fun (wq:World) (hu:Up w wq)=>hr.up hu
 obtain ⟨a,cap,rfl,hc1,hc2,hc3,hsome⟩:=hr
 unfold maxLen at hc2
 have ec:k.c=clr k.set:=rfl
 have hgt: ¬ ((k.ps.length:Int)>(lastC k.set:Int) - ((clr k.set:Int)+1)):=by omega
 clear h
 simp only [kV]
 go_enter Tryz.func64,Tryz.ntmps64
 go_wp2
 refine wp_region_up 14 (by kernel_rfl) (by kernel_rfl) ?_
 simp only [List.take,List.drop]
 repeat (refine wpUp_step (fun K hK=>?_);go_simp;(try simp only [↓IntWalk.iteOmega]);first
  |(refine hK _ _ ?_;clear hK K)
  |(apply stepU_c
    ·intro wq hwq;(have hbq:=bcell hwq;(repeat (first|refine fills_no (by rfl) ?_|refine fills_yes (by rfl) (fun vq hvq=>?_)));simp only [List.filter_nil,fills];unfold upAt;go_simp;(try go_bits);(try simp only [↓IntWalk.iteOmega]);first|exact upOut_value|(apply upOut_call;(go_at_call 89;exact cS _))|(apply upOut_call;(go_at_call 97;exact cL _))|(apply upOut_call;(go_at_call 58;exact cE _)))
    go_simp;refine hK _ _ ?_;clear hK K))
 refine wpUp_nil (fun wq hwq=>?_)
 simp only [fills]
 have BQ:=bcell hwq
 have hU1:Up w wq:=by (repeat (first|exact Up.refl _|refine Up.alloc ?_ _|refine Up.trans ?_ (by with_reducible assumption)))
 have hKA:KnAt w.heap.size k (.slice a k.ps.length cap) wq:=box_up hwq (box_up ((Up.refl _).alloc _) (MapKept.heap_alloc w _).1)
 have hSA:SetAt (w.heap.size+1) k.set.ord k.set.lit k.set.most wq:=box_up hwq (alloc2 w _ _)
 go_wp2
 go_loopw [25] (fun i wr=>RelKV k (.slice a k.ps.length cap) w i wr) (fun i _=>k.ps.length - (intOf i).toNat)
 case atStart=>exact ⟨0,Nat.zero_le _,rfl,hU1,hKA,hSA⟩
 case round =>
  clear hKA hSA hU1 hwq BQ hgt
  obtain ⟨j,hj,rfl,hup,hkn,hst⟩:=hrel
  obtain ⟨b0,r0,r1,r2,r3,r4,r5⟩:=hkn.cells
  obtain ⟨b1,s0,s1,s2⟩:=hst.cells
  have HKN:=Lib.hid hkn
  have HST:=Lib.hid hst
  clear hkn hst
  by_cases hlt:j<k.ps.length
  ·obtain ⟨hp1,hp2,hp3⟩:=HK.out.ps.get hlt
   obtain ⟨b,off,rfl,hlo,hbl,hcells⟩:=hsome (by omega)
   obtain ⟨q0,q1⟩:=hcells j k.ps[j] (List.getElem?_eq_getElem hlt)
   clear hcells
   have cKj:=fun w=>cK k.ps[j].pre j w (by omega)
   rw [← ec,hp1] at cKj
   rw [ec] at hp3
   have p0:=(hup.cell (p:=⟨b,off+j * 2,none⟩) hbl).trans q0
   have p1:=(hup.cell (p:=⟨b,off+j * 2+1,none⟩) hbl).trans q1
   generalize k.ps[j].pre=xp at *
   generalize k.ps[j].byt=xb at *
   clear hp1 cK
   have hbl2:=Nat.lt_of_lt_of_le hbl hup.size
   have hnn: ¬ xb<0:=by omega
   have hnc: ¬ xb≥(clr k.set:Int):=by omega
   go_wp2
   refine wp_region_up 18 (by kernel_rfl) (by kernel_rfl) ?_
   simp only [List.take,List.drop]
   repeat (refine wpUp_step (fun K hK=>?_);go_simp;(try simp only [↓IntWalk.iteOmega]);first
    |(refine hK _ _ ?_;clear hK K)
    |(apply stepU_c
      ·intro wq hwq;(have hbq:=bcell hwq;(repeat (first|refine fills_no (by rfl) ?_|refine fills_yes (by rfl) (fun vq hvq=>?_)));simp only [List.filter_nil,fills];unfold upAt;go_simp;(try go_bits);(try simp only [↓IntWalk.iteOmega]);first|exact upOut_value|(apply upOut_call;(go_at_call 120;exact cKj _))|(apply upOut_call;(go_at_call 40;exact cC _)))
      go_simp;refine hK _ _ ?_;clear hK K))
   refine wpUp_nil (fun wq hwq=>?_)
   simp only [fills]
   go_wp2
   go_roundw
   case rel=>exact ⟨j+1,by omega,by go_num,by (repeat (first|exact Up.refl _|refine Up.alloc ?_ _|refine Up.trans ?_ (by with_reducible assumption))),box_up hwq (box_up ((Up.refl _).alloc _) HKN.out),box_up hwq (box_up ((Up.refl _).alloc _) HST.out)⟩
   case measure=>simp [intOf];omega
  ·have hbn: ¬ k.base<0:=by omega
   have hbg: ¬ k.base>(k.ps.length:Int):=by omega
   by_cases hla:k.last= -1
   ·have hbe:=hv hla
    rw [hla] at r5
    rw [hbe] at r4
    clear hla hbe hv HKN HST hba0 hba1 hbn hbg
    go_wp2
    go_ret
    refine ⟨rfl,?_⟩
    (repeat (first|exact Up.refl _|refine Up.alloc ?_ _|refine Up.trans ?_ (by with_reducible assumption)))
   ·have hco:codeOk (clr k.set) k.ps.length k.last=true:=HK.out.last.resolve_left hla
    have cKj:=fun w=>cK k.last k.ps.length w (by omega)
    rw [hco] at cKj
    clear hco hv HKN HST
    go_wp2_with (first|(go_at_call 120;(with_reducible refine (cKj _).mono ?_);rintro e w1 ⟨rfl,U1⟩;have B1:=bcell U1;have Z1:=U1.size;(try simp at Z1);(try rw [Nat.add_one_le_iff] at Z1)))
    go_ret
    refine ⟨rfl,?_⟩
    (repeat (first|exact Up.refl _|refine Up.alloc ?_ _|refine Up.trans ?_ (by with_reducible assumption)))
set_option maxRecDepth 100000 in
set_option maxHeartbeats 1000000 in
theorem fitsI_any (s:SetD) (d:ByteArray) (w:World) (hl: -9223372036854775808≤s.lit∧s.lit≤9223372036854775807) (hd:d.size≤1073741824) :
  Calls Tryz.prog 34  #[setV s,.string d] w (Same (.bool (fitsB s d.data.toList)) w):=by
 have cS:=fun w=>setI_any s.ord s.lit s.most w hl
 rw [setD_eta] at cS
 have hlen:=ba_len d
 cases h:setOk s
 ·rw [show fitsB s d.data.toList=false by unfold fitsB;rw [h];rfl]
  rw [h] at cS
  clear h
  simp only [setV]
  go_enter Tryz.func34,Tryz.ntmps34
  go_wp2_with ((go_at_call 89;(with_reducible refine (cS _).mono ?_);rintro e w1 ⟨rfl,U1⟩;have B1:=bcell U1;have Z1:=U1.size;(try simp at Z1);(try rw [Nat.add_one_le_iff] at Z1)))
  go_ret
  refine ⟨rfl,?_⟩
  (repeat (first|exact Up.refl _|refine Up.alloc ?_ _|refine Up.trans ?_ (by with_reducible assumption)))
 ·by_cases h2:d.size≤2000
  ·rw [show fitsB s d.data.toList=litsL (clr s) d.data.toList by unfold fitsB;rw [h,hlen,decide_eq_true h2];rfl]
   rw [h] at cS
   obtain ⟨o,l,m⟩:=s
   obtain ⟨-,⟨g1,g2⟩,-,-⟩:=setOk_bd h
   simp only at g1 g2
   obtain ⟨n,rfl⟩: ∃ n:Nat,l=n:=⟨l.toNat,by omega⟩
   clear h hl
   have e:Hid (((2 ^ n:Nat):Int)=(clr ⟨o,n,m⟩:Nat)):=rfl
   have hp:=pow2_small (n:=n) (by omega)
   simp only [setV] at *
   go_enter Tryz.func34,Tryz.ntmps34
   go_wp2_with ((go_at_call 89;(with_reducible refine (cS _).mono ?_);rintro e w1 ⟨rfl,U1⟩;have B1:=bcell U1;have Z1:=U1.size;(try simp at Z1);(try rw [Nat.add_one_le_iff] at Z1)))
   have hSA:SetAt w.heap.size o n m w1:=box_up U1 (MapKept.heap_alloc w _).1
   have hU1:Up w w1:=by (repeat (first|exact Up.refl _|refine Up.alloc ?_ _|refine Up.trans ?_ (by with_reducible assumption)))
   clear U1 B1 Z1
   go_loopw [16] (fun i wr=>RelL (clr ⟨o,n,m⟩) d o n m w i wr) (fun i _=>d.size - (intOf i).toNat)
   case atStart=>exact ⟨0,Nat.zero_le _,rfl,hU1,hSA,fun j hj h=>absurd h (Nat.not_lt_zero _)⟩
   case round =>
    clear hSA hU1
    obtain ⟨k,hk,rfl,hup,hset,hall⟩:=hrel
    obtain ⟨b0,b1,b2,b3⟩:=hset.cells
    have HB:=Lib.hid hset
    clear hset
    have HA:=Lib.hid hall
    clear hall
    by_cases hlt:k<d.size
    ·have hu:=u8_bd d[k]
     have hl:k<d.data.toList.length:=by simpa using hlt
     have e2:d[k]=d.data.toList[k]:=rfl
     by_cases hc:d[k].toNat<clr ⟨o,n,m⟩
     ·have hN:Hid (∀ j (hj:j<d.data.toList.length),j<k+1→(d.data.toList[j]).toNat<clr ⟨o,n,m⟩):=fun j hj hjk=>by
       rcases Nat.lt_or_ge j k with h|h
       ·exact HA.out j hj h
       ·have:j=k:=by omega
        subst this;exact hc
      have hge: ¬ ((2:Int) ^ n≤(d[k].toNat:Int)):=by
       have e3:(2:Int) ^ n=(clr ⟨o,n,m⟩:Nat):=by have:=e.out;simpa using this
       rw [e3];omega
      clear e2
      go_wp2
      refine wp_region_up 8 (by kernel_rfl) (by kernel_rfl) ?_
      simp only [List.take,List.drop]
      repeat (refine wpUp_step (fun K hK=>?_);go_simp;(try simp only [↓IntWalk.iteOmega]);first
       |(refine hK _ _ ?_;clear hK K)
       |(apply stepU_c
         ·intro wq hwq;(have hbq:=bcell hwq;(repeat (first|refine fills_no (by rfl) ?_|refine fills_yes (by rfl) (fun vq hvq=>?_)));simp only [List.filter_nil,fills];unfold upAt;go_simp;(try go_bits);(try simp only [↓IntWalk.iteOmega]);first|exact upOut_value)
         go_simp;refine hK _ _ ?_;clear hK K))
      refine wpUp_nil (fun wq hwq=>?_)
      simp only [fills]
      go_wp2
      go_roundw
      case rel=>exact ⟨k+1,by omega,by go_num,by (repeat (first|exact Up.refl _|refine Up.alloc ?_ _|refine Up.trans ?_ (by with_reducible assumption))),box_up hwq HB.out,hN.out⟩
      case measure=>simp [intOf];omega
     ·have hN:Hid (litsL (clr ⟨o,n,m⟩) d.data.toList=false):=litsL_no hl (by rw [← e2];exact hc)
      have hge:((2:Int) ^ n≤(d[k].toNat:Int)):=by
       have e3:(2:Int) ^ n=(clr ⟨o,n,m⟩:Nat):=by have:=e.out;simpa using this
       rw [e3];omega
      clear e2
      go_wp2
      refine wp_region_up 8 (by kernel_rfl) (by kernel_rfl) ?_
      simp only [List.take,List.drop]
      repeat (refine wpUp_step (fun K hK=>?_);go_simp;(try simp only [↓IntWalk.iteOmega]);first
       |(refine hK _ _ ?_;clear hK K)
       |(apply stepU_c
         ·intro wq hwq;(have hbq:=bcell hwq;(repeat (first|refine fills_no (by rfl) ?_|refine fills_yes (by rfl) (fun vq hvq=>?_)));simp only [List.filter_nil,fills];unfold upAt;go_simp;(try go_bits);(try simp only [↓IntWalk.iteOmega]);first|exact upOut_value)
         go_simp;refine hK _ _ ?_;clear hK K))
      refine wpUp_nil (fun wq hwq=>?_)
      simp only [fills]
      go_wp2
      go_ret
      refine ⟨ret_bool hN.out.symm,?_⟩
      (repeat (first|exact Up.refl _|refine Up.alloc ?_ _|refine Up.trans ?_ (by with_reducible assumption)))
    ·have hN:Hid (litsL (clr ⟨o,n,m⟩) d.data.toList=true):=litsL_yes fun j hj=>HA.out j hj (by rw [ba_len] at hj;omega)
     go_wp2
     go_ret
     refine ⟨ret_bool hN.out.symm,?_⟩
     (repeat (first|exact Up.refl _|refine Up.alloc ?_ _|refine Up.trans ?_ (by with_reducible assumption)))
  ·rw [show fitsB s d.data.toList=false by unfold fitsB;rw [h,hlen,decide_eq_false h2];rfl]
   rw [h] at cS
   clear h
   simp only [setV]
   go_enter Tryz.func34,Tryz.ntmps34
   go_wp2_with ((go_at_call 89;(with_reducible refine (cS _).mono ?_);rintro e w1 ⟨rfl,U1⟩;have B1:=bcell U1;have Z1:=U1.size;(try simp at Z1);(try rw [Nat.add_one_le_iff] at Z1)))
   go_ret
   refine ⟨rfl,?_⟩
   (repeat (first|exact Up.refl _|refine Up.alloc ?_ _|refine Up.trans ?_ (by with_reducible assumption)))
set_option maxRecDepth 100000 in
set_option maxHeartbeats 1000000 in
theorem needI_any (n:Nat) (w:World) (hn:n≤1048576) :
  Calls Tryz.prog 139  #[.int .i64 n] w (fun e w'=>e= .returned (.int .i64 (needed n:Nat))∧w=w'):=by
 have cB:=fun w=>Tryz.bits_Len (n:Int) w (by omega) (by omega)
 have e:=Lib.hid (needed_len n (by omega))
 rw [Int.toNat_natCast] at cB
 generalize Go.Lib.bitLen n=bl at *
 go_enter Tryz.func139,Tryz.ntmps139
 go_wp2_with ((go_at_call 165;(with_reducible refine (cB _).mono ?_);rintro e w' ⟨rfl,rfl⟩))
 all_goals
  go_ret
  exact ⟨ret_int (by rw [e.out];omega),rfl⟩
set_option maxRecDepth 100000 in
set_option maxHeartbeats 1000000 in
theorem widthI_any (k:KnD) (v:Value) (lo:Nat) (w:World) (h:k.Ok) (hr:RdP lo w v k.ps) :
  Calls Tryz.prog 84  #[kV k v] w (Same (.int .i64 (k.width:Nat)) w):=by
 have hpl:=h.nums.2.2.2.1
 obtain ⟨a,cap,rfl,-,-,-,-⟩:=hr
 have cG:=fun w=>topI_any k.set k.base k.last a k.ps.length cap w h.set (by omega)
 rw [topN_eq] at cG
 have cN:=fun w hn=>needI_any k.top w hn
 obtain ⟨-,⟨h1,h2⟩,-,-⟩:=setOk_bd h.set
 have hnum:=h.nums
 have ht:=KnD.top_bd h
 have hnd:=needed_bd k.top
 have ht1:=ht.1
 have ht2:=ht.2
 have ht3:=hnum.2.2.1
 obtain ⟨hn1,hn2⟩:=hnd
 clear ht hnum
 have e:Hid (((k.width:Nat):Int)=max ((needed k.top:Nat):Int) (k.set.lit+1)):=by unfold Hid KnD.width;omega
 rw [e.out]
 generalize needed k.top=nd at *
 generalize k.top=tp at *
 obtain ⟨⟨o,l,m⟩,ps,ba,la⟩:=k
 simp only at *
 clear h e
 simp only [kV,knV] at *
 go_enter Tryz.func84,Tryz.ntmps84
 go_wp2
 refine wp_region_up 8 (by kernel_rfl) (by kernel_rfl) ?_
 simp only [List.take,List.drop]
 repeat (refine wpUp_step (fun K hK=>?_);go_simp;(try simp only [↓IntWalk.iteOmega]);first
  |(refine hK _ _ ?_;clear hK K)
  |(apply stepU_c
    ·intro wq hwq;(have hbq:=bcell hwq;(repeat (first|refine fills_no (by rfl) ?_|refine fills_yes (by rfl) (fun vq hvq=>?_)));simp only [List.filter_nil,fills];unfold upAt;go_simp;(try go_bits);(try simp only [↓IntWalk.iteOmega]);first|exact upOut_value|(apply upOut_call;(go_at_call 140;exact cG _))|(apply upOut_eq;(go_at_call 140;exact cG _))|(apply upOut_call;(go_at_call 139;exact cN _ (by omega)))|(apply upOut_eq;(go_at_call 139;exact cN _ (by omega))))
    go_simp;refine hK _ _ ?_;clear hK K))
 refine wpUp_nil (fun wq hwq=>?_)
 simp only [fills]
 go_wp2
 all_goals
  go_ret
  refine ⟨ret_int (by first|rfl|omega),?_⟩
  (repeat (first|exact Up.refl _|refine Up.alloc ?_ _|refine Up.trans ?_ (by with_reducible assumption)))
set_option maxRecDepth 100000 in
set_option maxHeartbeats 1000000 in
theorem canI_any (k:KnD) (v:Value) (lo:Nat) (x:Int) (w:World) (h:k.Ok) (hr:RdP lo w v k.ps) (hx:0≤x) :
  Calls Tryz.prog 136  #[kV k v,.int .i64 x] w (Same (.bool (decide (x≤(k.top:Nat)))) w):=by
 have hpl:=h.nums.2.2.2.1
 obtain ⟨a,cap,rfl,-,-,-,-⟩:=hr
 have cG:=fun w=>topI_any k.set k.base k.last a k.ps.length cap w h.set (by omega)
 rw [topN_eq] at cG
 generalize k.top=tp at *
 obtain ⟨⟨o,l,m⟩,ps,ba,la⟩:=k
 simp only at *
 clear h
 simp only [kV,knV] at *
 go_enter Tryz.func136,Tryz.ntmps136
 go_wp2_with ((go_at_call 140;(with_reducible refine (cG _).mono ?_);rintro e w1 ⟨rfl,U1⟩;have B1:=bcell U1;have Z1:=U1.size;(try simp at Z1);(try rw [Nat.add_one_le_iff] at Z1)))
 go_ret
 refine ⟨ret_bool (by first|rfl|(simp;done)|(simp;omega)),?_⟩
 (repeat (first|exact Up.refl _|refine Up.alloc ?_ _|refine Up.trans ?_ (by with_reducible assumption)))
end Go.Proofs.YtekogcjdaolcbaaGreatDoor
/- Walks of the program's and of the reference's KnownValid, for what is known of any kind. Conditions: the pairs can be read. -/
namespace Go.Proofs.YtekogcjdaolcbaaGreatDoor
open Go Go.RowKit
def pairOk (s:SetD) (i:Nat) (p:PairD):Bool:=codeOk (clr s) i p.pre && (decide (0≤p.byt) && decide (p.byt<(clr s:Int)))
def roomOk (k:KnD):Bool:=decide ((k.ps.length:Int)≤(lastC k.set:Int) - ((clr k.set:Int)+1))
def pairsOk (k:KnD):Bool:=(List.range k.ps.length).all fun i=>pairOk k.set i (k.ps.getD i ⟨0,0⟩)
def lastOk (k:KnD):Bool:=if k.last= -1 then decide (k.base=k.ps.length) else codeOk (clr k.set) k.ps.length k.last
def validK (k:KnD):Bool:=setOk k.set && (roomOk k && (pairsOk k && (inB k.base 0 k.ps.length && lastOk k)))
theorem pairsOk_no {k:KnD} {j:Nat} (h:j<k.ps.length) (hp:pairOk k.set j k.ps[j]=false):pairsOk k=false:=by
 cases e:pairsOk k
 ·rfl
 ·unfold pairsOk at e
  rw [List.all_eq_true] at e
  have:=e j (List.mem_range.2 h)
  rw [List.getD_eq_getElem?_getD,List.getElem?_eq_getElem h,Option.getD_some,hp] at this
  cases this
theorem pairsOk_yes {k:KnD} (h: ∀ j (hj:j<k.ps.length),pairOk k.set j k.ps[j]=true):pairsOk k=true:=by
 unfold pairsOk
 rw [List.all_eq_true]
 intro j hj
 have hj:=List.mem_range.1 hj
 rw [List.getD_eq_getElem?_getD,List.getElem?_eq_getElem hj]
 exact h j hj
theorem validK_pairs {k:KnD} (h:pairsOk k=false):validK k=false:=by unfold validK;rw [h];simp
theorem validK_base {k:KnD} (h:inB k.base 0 k.ps.length=false):validK k=false:=by unfold validK;rw [h];simp
theorem validK_last {k:KnD} (h1:setOk k.set=true) (h2:roomOk k=true) (h3:pairsOk k=true) (h4:inB k.base 0 k.ps.length=true):validK k=lastOk k:=by unfold validK;rw [h1,h2,h3,h4];rfl
theorem pairOk_of {s:SetD} {i:Nat} {p:PairD} (h:codeOk (clr s) i p.pre=true) (h0:0≤p.byt) (h1:p.byt<(clr s:Int)):pairOk s i p=true:=by unfold pairOk;rw [h,decide_eq_true h0,decide_eq_true h1];rfl
theorem pairOk_not {s:SetD} {i:Nat} {p:PairD} (h:codeOk (clr s) i p.pre=false∨p.byt<0∨(clr s:Int)≤p.byt):pairOk s i p=false:=by
 unfold pairOk
 rcases h with h|h|h
 ·rw [h];rfl
 ·rw [show decide (0≤p.byt)=false by simp;omega];simp
 ·rw [show decide (p.byt<(clr s:Int))=false by simp;omega];simp
def RelKg (k:KnD) (v:Value) (w:World) (i:Value) (wr:World):Prop:= ∃ j:Nat,j≤k.ps.length∧i= .int .i64 j∧(∀ q (h:q<k.ps.length),q<j→pairOk k.set q k.ps[q]=true)∧Up w wr∧KnAt w.heap.size k v wr∧SetAt (w.heap.size+1) k.set.ord k.set.lit k.set.most wr
set_option maxRecDepth 100000 in
set_option maxHeartbeats 8000000 in
theorem kvI_gen (k:KnD) (v:Value) (lo:Nat) (w:World) (hl: -9223372036854775808≤k.set.lit∧k.set.lit≤9223372036854775807) (hr:RdP lo w v k.ps) (hps:k.ps.length≤1073741824) :
  Calls Tryz.prog 64  #[kV k v] w (Same (.bool (validK k)) w):=by
 have cS:=fun w=>setI_any k.set.ord k.set.lit k.set.most w hl
 rw [setD_eta] at cS
 have hrt:=fun (wq:World) (hu:Up w wq)=>hr.up hu
 obtain ⟨a,cap,rfl,hc1,hc2,hc3,hsome⟩:=hr
 unfold maxLen at hc2
 cases h1:setOk k.set
 ·have HV:Hid (validK k=false):=by unfold Hid validK;rw [h1];rfl
  rw [h1] at cS
  rw [HV.out]
  clear h1 hsome hc3
  simp only [kV,setV] at *
  go_enter Tryz.func64,Tryz.ntmps64
  go_wp2
  refine wp_region_up 14 (by kernel_rfl) (by kernel_rfl) ?_
  simp only [List.take,List.drop]
  repeat (refine wpUp_step (fun K hK=>?_);go_simp;(try simp only [↓IntWalk.iteOmega]);first
   |(refine hK _ _ ?_;clear hK K)
   |(apply stepU_c
     ·intro wq hwq;(have hbq:=bcell hwq;(repeat (first|refine fills_no (by rfl) ?_|refine fills_yes (by rfl) (fun vq hvq=>?_)));simp only [List.filter_nil,fills];unfold upAt;go_simp;(try go_bits);(try simp only [↓IntWalk.iteOmega]);first|exact upOut_value|(apply upOut_call;(go_at_call 89;exact cS _)))
     go_simp;refine hK _ _ ?_;clear hK K))
  refine wpUp_nil (fun wq hwq=>?_)
  simp only [fills]
  go_wp2
  go_ret
  refine ⟨rfl,?_⟩
  (repeat (first|exact Up.refl _|refine Up.alloc ?_ _|refine Up.trans ?_ (by with_reducible assumption)))
 have cL:=fun w=>lastI_any k.set w h1
 have cE:=fun w=>endI_any k.set w h1
 have cC:=fun w=>clearI_any k.set w h1
 have cK:=fun x n w hn=>hasI_any k.set n x w h1 hn
 obtain ⟨n1,n2,n3,n4⟩:=setOk_bd h1
 have hcb:=clr_bd h1
 have H1:=Lib.hid h1
 rw [h1] at cS
 by_cases h2:(k.ps.length:Int)>(lastC k.set:Int) - ((clr k.set:Int)+1)
 ·have HV:Hid (validK k=false):=by unfold Hid validK roomOk;rw [h1,decide_eq_false (by omega)];rfl
  rw [HV.out]
  clear h1 hsome hc3
  simp only [kV,setV] at *
  go_enter Tryz.func64,Tryz.ntmps64
  go_wp2
  refine wp_region_up 14 (by kernel_rfl) (by kernel_rfl) ?_
  simp only [List.take,List.drop]
  repeat (refine wpUp_step (fun K hK=>?_);go_simp;(try simp only [↓IntWalk.iteOmega]);first
   |(refine hK _ _ ?_;clear hK K)
   |(apply stepU_c
     ·intro wq hwq;(have hbq:=bcell hwq;(repeat (first|refine fills_no (by rfl) ?_|refine fills_yes (by rfl) (fun vq hvq=>?_)));simp only [List.filter_nil,fills];unfold upAt;go_simp;(try go_bits);(try simp only [↓IntWalk.iteOmega]);first|exact upOut_value|(apply upOut_call;(go_at_call 89;exact cS _))|(apply upOut_call;(go_at_call 97;exact cL _))|(apply upOut_call;(go_at_call 58;exact cE _)))
     go_simp;refine hK _ _ ?_;clear hK K))
  refine wpUp_nil (fun wq hwq=>?_)
  simp only [fills]
  go_wp2
  go_ret
  refine ⟨rfl,?_⟩
  (repeat (first|exact Up.refl _|refine Up.alloc ?_ _|refine Up.trans ?_ (by with_reducible assumption)))
 have HR:Hid (roomOk k=true):=by unfold Hid roomOk;exact decide_eq_true (by omega)
 clear h1
 simp only [kV,setV] at *
 go_enter Tryz.func64,Tryz.ntmps64
 go_wp2
 refine wp_region_up 14 (by kernel_rfl) (by kernel_rfl) ?_
 simp only [List.take,List.drop]
 repeat (refine wpUp_step (fun K hK=>?_);go_simp;(try simp only [↓IntWalk.iteOmega]);first
  |(refine hK _ _ ?_;clear hK K)
  |(apply stepU_c
    ·intro wq hwq;(have hbq:=bcell hwq;(repeat (first|refine fills_no (by rfl) ?_|refine fills_yes (by rfl) (fun vq hvq=>?_)));simp only [List.filter_nil,fills];unfold upAt;go_simp;(try go_bits);(try simp only [↓IntWalk.iteOmega]);first|exact upOut_value|(apply upOut_call;(go_at_call 89;exact cS _))|(apply upOut_call;(go_at_call 97;exact cL _))|(apply upOut_call;(go_at_call 58;exact cE _)))
    go_simp;refine hK _ _ ?_;clear hK K))
 refine wpUp_nil (fun wq hwq=>?_)
 simp only [fills]
 have BQ:=bcell hwq
 have hU1:Up w wq:=by (repeat (first|exact Up.refl _|refine Up.alloc ?_ _|refine Up.trans ?_ (by with_reducible assumption)))
 have hKA:KnAt w.heap.size k (.slice a k.ps.length cap) wq:=box_up hwq (box_up ((Up.refl _).alloc _) (MapKept.heap_alloc w _).1)
 have hSA:SetAt (w.heap.size+1) k.set.ord k.set.lit k.set.most wq:=box_up hwq (alloc2 w _ _)
 go_wp2
 go_loopw [25] (fun i wr=>RelKg k (.slice a k.ps.length cap) w i wr) (fun i _=>k.ps.length - (intOf i).toNat)
 case atStart=>exact ⟨0,Nat.zero_le _,rfl,fun q h hq=>absurd hq (Nat.not_lt_zero _),hU1,hKA,hSA⟩
 case round =>
  clear hKA hSA hU1 hwq BQ h2
  obtain ⟨j,hj,rfl,hall,hup,hkn,hst⟩:=hrel
  have HALL:=Lib.hid hall
  obtain ⟨b0,r0,r1,r2,r3,r4,r5⟩:=hkn.cells
  obtain ⟨b1,s0,s1,s2⟩:=hst.cells
  have HKN:=Lib.hid hkn
  have HST:=Lib.hid hst
  clear hkn hst hall
  by_cases hlt:j<k.ps.length
  ·obtain ⟨b,off,rfl,hlo,hbl,hcells⟩:=hsome (by omega)
   obtain ⟨q0,q1⟩:=hcells j k.ps[j] (List.getElem?_eq_getElem hlt)
   clear hcells
   have cKj:=fun w=>cK k.ps[j].pre j w (by omega)
   have p0:=(hup.cell (p:=⟨b,off+j * 2,none⟩) hbl).trans q0
   have p1:=(hup.cell (p:=⟨b,off+j * 2+1,none⟩) hbl).trans q1
   have HNO:Hid ((codeOk (clr k.set) j (k.ps[j]).pre=false∨(k.ps[j]).byt<0∨(clr k.set:Int)≤(k.ps[j]).byt)→validK k=false):=fun h=>validK_pairs (pairsOk_no hlt (pairOk_not h))
   have HYES:Hid (codeOk (clr k.set) j (k.ps[j]).pre=true→0≤(k.ps[j]).byt→(k.ps[j]).byt<(clr k.set:Int)→ ∀ q (h:q<k.ps.length),q<j+1→pairOk k.set q k.ps[q]=true):=fun e1 e2 e3 q h hq=>by
    rcases Nat.lt_or_ge q j with h'|h'
    ·exact HALL.out q h h'
    ·have:q=j:=by omega
     subst this
     exact pairOk_of e1 e2 e3
   have hbl2:=Nat.lt_of_lt_of_le hbl hup.size
   generalize k.ps[j].pre=xp at *
   generalize k.ps[j].byt=xb at *
   clear cK
   cases hco:codeOk (clr k.set) j xp
   ·have HV:Hid (validK k=false):=HNO.out (.inl hco)
    rw [hco] at cKj
    clear hco HNO HYES
    go_wp2
    refine wp_region_up 18 (by kernel_rfl) (by kernel_rfl) ?_
    simp only [List.take,List.drop]
    repeat (refine wpUp_step (fun K hK=>?_);go_simp;(try simp only [↓IntWalk.iteOmega]);first
     |(refine hK _ _ ?_;clear hK K)
     |(apply stepU_c
       ·intro wq hwq;(have hbq:=bcell hwq;(repeat (first|refine fills_no (by rfl) ?_|refine fills_yes (by rfl) (fun vq hvq=>?_)));simp only [List.filter_nil,fills];unfold upAt;go_simp;(try go_bits);(try simp only [↓IntWalk.iteOmega]);first|exact upOut_value|(apply upOut_call;(go_at_call 120;exact cKj _))|(apply upOut_call;(go_at_call 40;exact cC _)))
       go_simp;refine hK _ _ ?_;clear hK K))
    refine wpUp_nil (fun wq hwq=>?_)
    simp only [fills]
    go_wp2
    go_ret
    refine ⟨by rw [HV.out];rfl,?_⟩
    (repeat (first|exact Up.refl _|refine Up.alloc ?_ _|refine Up.trans ?_ (by with_reducible assumption)))
   ·rw [hco] at cKj
    by_cases hx0:xb<0
    ·have HV:Hid (validK k=false):=HNO.out (.inr (.inl hx0))
     clear hco HNO HYES
     go_wp2
     refine wp_region_up 18 (by kernel_rfl) (by kernel_rfl) ?_
     simp only [List.take,List.drop]
     repeat (refine wpUp_step (fun K hK=>?_);go_simp;(try simp only [↓IntWalk.iteOmega]);first
      |(refine hK _ _ ?_;clear hK K)
      |(apply stepU_c
        ·intro wq hwq;(have hbq:=bcell hwq;(repeat (first|refine fills_no (by rfl) ?_|refine fills_yes (by rfl) (fun vq hvq=>?_)));simp only [List.filter_nil,fills];unfold upAt;go_simp;(try go_bits);(try simp only [↓IntWalk.iteOmega]);first|exact upOut_value|(apply upOut_call;(go_at_call 120;exact cKj _))|(apply upOut_call;(go_at_call 40;exact cC _)))
        go_simp;refine hK _ _ ?_;clear hK K))
     refine wpUp_nil (fun wq hwq=>?_)
     simp only [fills]
     go_wp2
     go_ret
     refine ⟨by rw [HV.out];rfl,?_⟩
     (repeat (first|exact Up.refl _|refine Up.alloc ?_ _|refine Up.trans ?_ (by with_reducible assumption)))
    ·by_cases hxc:xb≥(clr k.set:Int)
     ·have HV:Hid (validK k=false):=HNO.out (.inr (.inr hxc))
      clear hco HNO HYES
      go_wp2
      refine wp_region_up 18 (by kernel_rfl) (by kernel_rfl) ?_
      simp only [List.take,List.drop]
      repeat (refine wpUp_step (fun K hK=>?_);go_simp;(try simp only [↓IntWalk.iteOmega]);first
       |(refine hK _ _ ?_;clear hK K)
       |(apply stepU_c
         ·intro wq hwq;(have hbq:=bcell hwq;(repeat (first|refine fills_no (by rfl) ?_|refine fills_yes (by rfl) (fun vq hvq=>?_)));simp only [List.filter_nil,fills];unfold upAt;go_simp;(try go_bits);(try simp only [↓IntWalk.iteOmega]);first|exact upOut_value|(apply upOut_call;(go_at_call 120;exact cKj _))|(apply upOut_call;(go_at_call 40;exact cC _)))
         go_simp;refine hK _ _ ?_;clear hK K))
      refine wpUp_nil (fun wq hwq=>?_)
      simp only [fills]
      go_wp2
      go_ret
      refine ⟨by rw [HV.out];rfl,?_⟩
      (repeat (first|exact Up.refl _|refine Up.alloc ?_ _|refine Up.trans ?_ (by with_reducible assumption)))
     ·have HY:Hid (∀ q (h:q<k.ps.length),q<j+1→pairOk k.set q k.ps[q]=true):=HYES.out hco (by omega) (by omega)
      clear hco HNO HYES
      go_wp2
      refine wp_region_up 18 (by kernel_rfl) (by kernel_rfl) ?_
      simp only [List.take,List.drop]
      repeat (refine wpUp_step (fun K hK=>?_);go_simp;(try simp only [↓IntWalk.iteOmega]);first
       |(refine hK _ _ ?_;clear hK K)
       |(apply stepU_c
         ·intro wq hwq;(have hbq:=bcell hwq;(repeat (first|refine fills_no (by rfl) ?_|refine fills_yes (by rfl) (fun vq hvq=>?_)));simp only [List.filter_nil,fills];unfold upAt;go_simp;(try go_bits);(try simp only [↓IntWalk.iteOmega]);first|exact upOut_value|(apply upOut_call;(go_at_call 120;exact cKj _))|(apply upOut_call;(go_at_call 40;exact cC _)))
         go_simp;refine hK _ _ ?_;clear hK K))
      refine wpUp_nil (fun wq hwq=>?_)
      simp only [fills]
      go_wp2
      go_roundw
      case rel=>exact ⟨j+1,by omega,by go_num,HY.out,by (repeat (first|exact Up.refl _|refine Up.alloc ?_ _|refine Up.trans ?_ (by with_reducible assumption))),box_up hwq (box_up ((Up.refl _).alloc _) HKN.out),box_up hwq (box_up ((Up.refl _).alloc _) HST.out)⟩
      case measure=>simp [intOf];omega
  ·have HP:Hid (pairsOk k=true):=pairsOk_yes fun q h=>HALL.out q h (by omega)
   by_cases hb1:k.base<0
   ·have HV:Hid (validK k=false):=validK_base (inB_not.2 (.inl hb1))
    go_wp2
    go_ret
    refine ⟨by rw [HV.out];rfl,?_⟩
    (repeat (first|exact Up.refl _|refine Up.alloc ?_ _|refine Up.trans ?_ (by with_reducible assumption)))
   by_cases hb2:k.base>(k.ps.length:Int)
   ·have HV:Hid (validK k=false):=validK_base (inB_not.2 (.inr hb2))
    go_wp2
    go_ret
    refine ⟨by rw [HV.out];rfl,?_⟩
    (repeat (first|exact Up.refl _|refine Up.alloc ?_ _|refine Up.trans ?_ (by with_reducible assumption)))
   have HV:Hid (validK k=lastOk k):=validK_last H1.out HR.out HP.out (inB_iff.2 ⟨by omega,by omega⟩)
   by_cases hla:k.last= -1
   ·have HL:Hid (lastOk k=decide (k.base=k.ps.length)):=by unfold Hid lastOk;rw [if_pos hla]
    rw [hla] at r5
    clear hla
    go_wp2
    go_ret
    refine ⟨by rw [HV.out,HL.out];rfl,?_⟩
    (repeat (first|exact Up.refl _|refine Up.alloc ?_ _|refine Up.trans ?_ (by with_reducible assumption)))
   ·have HL:Hid (lastOk k=codeOk (clr k.set) k.ps.length k.last):=by unfold Hid lastOk;rw [if_neg hla]
    have cKj:=fun w=>cK k.last k.ps.length w (by omega)
    go_wp2_with (first|(go_at_call 120;(with_reducible refine (cKj _).mono ?_);rintro e w1 ⟨rfl,U1⟩;have B1:=bcell U1;have Z1:=U1.size;(try simp at Z1);(try rw [Nat.add_one_le_iff] at Z1)))
    go_ret
    refine ⟨by rw [HV.out,HL.out];rfl,?_⟩
    (repeat (first|exact Up.refl _|refine Up.alloc ?_ _|refine Up.trans ?_ (by with_reducible assumption)))
set_option maxRecDepth 100000 in
set_option maxHeartbeats 8000000 in
theorem kvS_gen (k:KnD) (v:Value) (lo:Nat) (w:World) (hr:RdP lo w v k.ps) (hps:k.ps.length≤1073741824) :
  Calls Tryz.prog 100  #[kV k v] w (Same (.bool (validK k)) w):=by
 have cS:=fun w=>setS_any k.set.ord k.set.lit k.set.most w
 rw [setD_eta] at cS
 have hrt:=fun (wq:World) (hu:Up w wq)=>hr.up hu
 obtain ⟨a,cap,rfl,hc1,hc2,hc3,hsome⟩:=hr
 unfold maxLen at hc2
 cases h1:setOk k.set
 ·have HV:Hid (validK k=false):=by unfold Hid validK;rw [h1];rfl
  rw [h1] at cS
  rw [HV.out]
  clear h1 hsome hc3
  simp only [kV,setV] at *
  go_enter Tryz.func100,Tryz.ntmps100
  go_wp2
  refine wp_region_up 23 (by kernel_rfl) (by kernel_rfl) ?_
  simp only [List.take,List.drop]
  repeat (refine wpUp_step (fun K hK=>?_);go_simp;(try simp only [↓IntWalk.iteOmega]);first
   |(refine hK _ _ ?_;clear hK K)
   |(apply stepU_c
     ·intro wq hwq;(have hbq:=bcell hwq;(repeat (first|refine fills_no (by rfl) ?_|refine fills_yes (by rfl) (fun vq hvq=>?_)));simp only [List.filter_nil,fills];unfold upAt;go_simp;(try go_bits);(try simp only [↓IntWalk.iteOmega]);first|exact upOut_value|(apply upOut_call;(go_at_call 103;exact cS _))|(apply upOut_eq;(go_at_call 103;exact cS _)))
     go_simp;refine hK _ _ ?_;clear hK K))
  refine wpUp_nil (fun wq hwq=>?_)
  simp only [fills]
  go_wp2
  go_ret
  refine ⟨rfl,?_⟩
  (repeat (first|exact Up.refl _|refine Up.alloc ?_ _|refine Up.trans ?_ (by with_reducible assumption)))
 have cL:=fun w=>l1Last_any k.set w h1
 have cE:=fun w=>l1End_any k.set w h1
 have cC:=fun w=>l1Clear_any k.set w h1
 have cK:=fun x n w hn=>l2Code_any k.set x n w h1 hn
 have cI:=fun a b c w=>l1In_any a b c w
 have cIb:=fun w=>l1In_any k.base 0 (k.ps.length:Int) w
 obtain ⟨n1,n2,n3,n4⟩:=setOk_bd h1
 have hcb:=clr_bd h1
 have H1:=Lib.hid h1
 rw [h1] at cS
 by_cases h2:(k.ps.length:Int)>(lastC k.set:Int) - ((clr k.set:Int)+1)
 ·have HV:Hid (validK k=false):=by unfold Hid validK roomOk;rw [h1,decide_eq_false (by omega)];rfl
  rw [HV.out]
  clear h1 hsome hc3
  simp only [kV,setV] at *
  go_enter Tryz.func100,Tryz.ntmps100
  go_wp2
  refine wp_region_up 23 (by kernel_rfl) (by kernel_rfl) ?_
  simp only [List.take,List.drop]
  repeat (refine wpUp_step (fun K hK=>?_);go_simp;(try simp only [↓IntWalk.iteOmega]);first
   |(refine hK _ _ ?_;clear hK K)
   |(apply stepU_c
     ·intro wq hwq;(have hbq:=bcell hwq;(repeat (first|refine fills_no (by rfl) ?_|refine fills_yes (by rfl) (fun vq hvq=>?_)));simp only [List.filter_nil,fills];unfold upAt;go_simp;(try go_bits);(try simp only [↓IntWalk.iteOmega]);first|exact upOut_value|(apply upOut_call;(go_at_call 103;exact cS _))|(apply upOut_eq;(go_at_call 103;exact cS _))|(apply upOut_call;(go_at_call 109;exact cL _))|(apply upOut_eq;(go_at_call 109;exact cL _))|(apply upOut_call;(go_at_call 131;exact cE _))|(apply upOut_eq;(go_at_call 131;exact cE _)))
     go_simp;refine hK _ _ ?_;clear hK K))
  refine wpUp_nil (fun wq hwq=>?_)
  simp only [fills]
  go_wp2
  go_ret
  refine ⟨rfl,?_⟩
  (repeat (first|exact Up.refl _|refine Up.alloc ?_ _|refine Up.trans ?_ (by with_reducible assumption)))
 have HR:Hid (roomOk k=true):=by unfold Hid roomOk;exact decide_eq_true (by omega)
 cases hb:inB k.base 0 (k.ps.length:Int)
 ·have HV:Hid (validK k=false):=validK_base hb
  rw [hb] at cIb
  rw [HV.out]
  clear h1 hsome hc3 hb
  simp only [kV,setV] at *
  go_enter Tryz.func100,Tryz.ntmps100
  go_wp2
  refine wp_region_up 23 (by kernel_rfl) (by kernel_rfl) ?_
  simp only [List.take,List.drop]
  repeat (refine wpUp_step (fun K hK=>?_);go_simp;(try simp only [↓IntWalk.iteOmega]);first
   |(refine hK _ _ ?_;clear hK K)
   |(apply stepU_c
     ·intro wq hwq;(have hbq:=bcell hwq;(repeat (first|refine fills_no (by rfl) ?_|refine fills_yes (by rfl) (fun vq hvq=>?_)));simp only [List.filter_nil,fills];unfold upAt;go_simp;(try go_bits);(try simp only [↓IntWalk.iteOmega]);first|exact upOut_value|(apply upOut_call;(go_at_call 103;exact cS _))|(apply upOut_eq;(go_at_call 103;exact cS _))|(apply upOut_call;(go_at_call 109;exact cL _))|(apply upOut_eq;(go_at_call 109;exact cL _))|(apply upOut_call;(go_at_call 131;exact cE _))|(apply upOut_eq;(go_at_call 131;exact cE _))|(apply upOut_call;(go_at_call 145;exact cIb _))|(apply upOut_eq;(go_at_call 145;exact cIb _)))
     go_simp;refine hK _ _ ?_;clear hK K))
  refine wpUp_nil (fun wq hwq=>?_)
  simp only [fills]
  go_wp2
  go_ret
  refine ⟨rfl,?_⟩
  (repeat (first|exact Up.refl _|refine Up.alloc ?_ _|refine Up.trans ?_ (by with_reducible assumption)))
 have HB:=Lib.hid hb
 rw [hb] at cIb
 clear h1 hb
 simp only [kV,setV] at *
 go_enter Tryz.func100,Tryz.ntmps100
 go_wp2
 refine wp_region_up 23 (by kernel_rfl) (by kernel_rfl) ?_
 simp only [List.take,List.drop]
 repeat (refine wpUp_step (fun K hK=>?_);go_simp;(try simp only [↓IntWalk.iteOmega]);first
  |(refine hK _ _ ?_;clear hK K)
  |(apply stepU_c
    ·intro wq hwq;(have hbq:=bcell hwq;(repeat (first|refine fills_no (by rfl) ?_|refine fills_yes (by rfl) (fun vq hvq=>?_)));simp only [List.filter_nil,fills];unfold upAt;go_simp;(try go_bits);(try simp only [↓IntWalk.iteOmega]);first|exact upOut_value|(apply upOut_call;(go_at_call 103;exact cS _))|(apply upOut_eq;(go_at_call 103;exact cS _))|(apply upOut_call;(go_at_call 109;exact cL _))|(apply upOut_eq;(go_at_call 109;exact cL _))|(apply upOut_call;(go_at_call 131;exact cE _))|(apply upOut_eq;(go_at_call 131;exact cE _))|(apply upOut_call;(go_at_call 145;exact cIb _))|(apply upOut_eq;(go_at_call 145;exact cIb _)))
    go_simp;refine hK _ _ ?_;clear hK K))
 refine wpUp_nil (fun wq hwq=>?_)
 simp only [fills]
 have BQ:=bcell hwq
 go_wp2
 have hU1:Up w wq:=by (repeat (first|exact Up.refl _|refine Up.alloc ?_ _|refine Up.trans ?_ (by with_reducible assumption)))
 have hKA:KnAt w.heap.size k (.slice a k.ps.length cap) wq:=box_up hwq (box_up ((Up.refl _).alloc _) (MapKept.heap_alloc w _).1)
 have hSA:SetAt (w.heap.size+1) k.set.ord k.set.lit k.set.most wq:=box_up hwq (alloc2 w _ _)
 go_loopw [4] (fun i wr=>RelKg k (.slice a k.ps.length cap) w i wr) (fun i _=>k.ps.length - (intOf i).toNat)
 case atStart=>exact ⟨0,Nat.zero_le _,rfl,fun q h hq=>absurd hq (Nat.not_lt_zero _),hU1,hKA,hSA⟩
 case round =>
  clear hKA hSA hU1 hwq BQ h2 cIb
  obtain ⟨j,hj,rfl,hall,hup,hkn,hst⟩:=hrel
  have HALL:=Lib.hid hall
  obtain ⟨b0,r0,r1,r2,r3,r4,r5⟩:=hkn.cells
  obtain ⟨b1,s0,s1,s2⟩:=hst.cells
  have HKN:=Lib.hid hkn
  have HST:=Lib.hid hst
  clear hkn hst hall
  by_cases hlt:j<k.ps.length
  ·obtain ⟨b,off,rfl,hlo,hbl,hcells⟩:=hsome (by omega)
   obtain ⟨q0,q1⟩:=hcells j k.ps[j] (List.getElem?_eq_getElem hlt)
   clear hcells
   have cKj:=fun w=>cK k.ps[j].pre j w (by omega)
   have cIj:=fun w=>l1In_any k.ps[j].byt 0 ((clr k.set:Int) - 1) w
   have HNO:Hid ((codeOk (clr k.set) j (k.ps[j]).pre=false∨(k.ps[j]).byt<0∨(clr k.set:Int)≤(k.ps[j]).byt)→validK k=false):=fun h=>validK_pairs (pairsOk_no hlt (pairOk_not h))
   have HYES:Hid (codeOk (clr k.set) j (k.ps[j]).pre=true→0≤(k.ps[j]).byt→(k.ps[j]).byt<(clr k.set:Int)→ ∀ q (h:q<k.ps.length),q<j+1→pairOk k.set q k.ps[q]=true):=fun e1 e2 e3 q h hq=>by
    rcases Nat.lt_or_ge q j with h'|h'
    ·exact HALL.out q h h'
    ·have:q=j:=by omega
     subst this
     exact pairOk_of e1 e2 e3
   generalize k.ps[j].pre=xp at *
   generalize k.ps[j].byt=xb at *
   clear cK
   cases hco:codeOk (clr k.set) j xp
   ·have HV:Hid (validK k=false):=HNO.out (.inl hco)
    rw [hco] at cKj
    clear hco HNO HYES
    go_wp2
    refine wp_region_up 23 (by kernel_rfl) (by kernel_rfl) ?_
    simp only [List.take,List.drop]
    repeat (refine wpUp_step (fun K hK=>?_);go_simp;(try simp only [↓IntWalk.iteOmega]);first
     |(refine hK _ _ ?_;clear hK K)
     |(apply stepU_c
       ·intro wq hwq;(have hbq:=bcell hwq;(repeat (first|refine fills_no (by rfl) ?_|refine fills_yes (by rfl) (fun vq hvq=>?_)));simp only [List.filter_nil,fills];unfold upAt;(try ((have e0:=((hup.trans hwq).cell (p:=⟨b,off+j * 2,none⟩) hbl).trans q0;have e1:=((hup.trans hwq).cell (p:=⟨b,off+j * 2+1,none⟩) hbl).trans q1)));go_simp;(try go_bits);(try simp only [↓IntWalk.iteOmega]);first|exact upOut_value|(apply upOut_call;(go_at_call 146;exact cKj _))|(apply upOut_eq;(go_at_call 146;exact cKj _))|(apply upOut_call;(go_at_call 86;exact cC _))|(apply upOut_eq;(go_at_call 86;exact cC _))|(apply upOut_call;(go_at_call 145;exact cIj _))|(apply upOut_eq;(go_at_call 145;exact cIj _)))
       go_simp;refine hK _ _ ?_;clear hK K))
    refine wpUp_nil (fun wq hwq=>?_)
    simp only [fills]
    go_wp2
    go_ret
    refine ⟨by rw [HV.out];rfl,?_⟩
    (repeat (first|exact Up.refl _|refine Up.alloc ?_ _|refine Up.trans ?_ (by with_reducible assumption)))
   ·rw [hco] at cKj
    cases hi:inB xb 0 ((clr k.set:Int) - 1)
    ·have HV:Hid (validK k=false):=HNO.out (.inr (by rcases inB_not.1 hi with h|h;exact .inl h;exact .inr (by omega)))
     rw [hi] at cIj
     clear hco HNO HYES hi
     go_wp2
     refine wp_region_up 23 (by kernel_rfl) (by kernel_rfl) ?_
     simp only [List.take,List.drop]
     repeat (refine wpUp_step (fun K hK=>?_);go_simp;(try simp only [↓IntWalk.iteOmega]);first
      |(refine hK _ _ ?_;clear hK K)
      |(apply stepU_c
        ·intro wq hwq;(have hbq:=bcell hwq;(repeat (first|refine fills_no (by rfl) ?_|refine fills_yes (by rfl) (fun vq hvq=>?_)));simp only [List.filter_nil,fills];unfold upAt;(try ((have e0:=((hup.trans hwq).cell (p:=⟨b,off+j * 2,none⟩) hbl).trans q0;have e1:=((hup.trans hwq).cell (p:=⟨b,off+j * 2+1,none⟩) hbl).trans q1)));go_simp;(try go_bits);(try simp only [↓IntWalk.iteOmega]);first|exact upOut_value|(apply upOut_call;(go_at_call 146;exact cKj _))|(apply upOut_eq;(go_at_call 146;exact cKj _))|(apply upOut_call;(go_at_call 86;exact cC _))|(apply upOut_eq;(go_at_call 86;exact cC _))|(apply upOut_call;(go_at_call 145;exact cIj _))|(apply upOut_eq;(go_at_call 145;exact cIj _)))
        go_simp;refine hK _ _ ?_;clear hK K))
     refine wpUp_nil (fun wq hwq=>?_)
     simp only [fills]
     go_wp2
     go_ret
     refine ⟨by rw [HV.out];rfl,?_⟩
     (repeat (first|exact Up.refl _|refine Up.alloc ?_ _|refine Up.trans ?_ (by with_reducible assumption)))
    ·have hi2:=inB_iff.1 hi
     have HY:Hid (∀ q (h:q<k.ps.length),q<j+1→pairOk k.set q k.ps[q]=true):=HYES.out hco hi2.1 (by omega)
     rw [hi] at cIj
     clear hco HNO HYES hi hi2
     go_wp2
     refine wp_region_up 23 (by kernel_rfl) (by kernel_rfl) ?_
     simp only [List.take,List.drop]
     repeat (refine wpUp_step (fun K hK=>?_);go_simp;(try simp only [↓IntWalk.iteOmega]);first
      |(refine hK _ _ ?_;clear hK K)
      |(apply stepU_c
        ·intro wq hwq;(have hbq:=bcell hwq;(repeat (first|refine fills_no (by rfl) ?_|refine fills_yes (by rfl) (fun vq hvq=>?_)));simp only [List.filter_nil,fills];unfold upAt;(try ((have e0:=((hup.trans hwq).cell (p:=⟨b,off+j * 2,none⟩) hbl).trans q0;have e1:=((hup.trans hwq).cell (p:=⟨b,off+j * 2+1,none⟩) hbl).trans q1)));go_simp;(try go_bits);(try simp only [↓IntWalk.iteOmega]);first|exact upOut_value|(apply upOut_call;(go_at_call 146;exact cKj _))|(apply upOut_eq;(go_at_call 146;exact cKj _))|(apply upOut_call;(go_at_call 86;exact cC _))|(apply upOut_eq;(go_at_call 86;exact cC _))|(apply upOut_call;(go_at_call 145;exact cIj _))|(apply upOut_eq;(go_at_call 145;exact cIj _)))
        go_simp;refine hK _ _ ?_;clear hK K))
     refine wpUp_nil (fun wq hwq=>?_)
     simp only [fills]
     go_wp2
     go_roundw
     case rel=>exact ⟨j+1,by omega,by go_num,HY.out,by (repeat (first|exact Up.refl _|refine Up.alloc ?_ _|refine Up.trans ?_ (by with_reducible assumption))),box_up hwq HKN.out,box_up hwq HST.out⟩
     case measure=>simp [intOf];omega
  ·have HP:Hid (pairsOk k=true):=pairsOk_yes fun q h=>HALL.out q h (by omega)
   have HV:Hid (validK k=lastOk k):=validK_last H1.out HR.out HP.out HB.out
   by_cases hla:k.last= -1
   ·have HL:Hid (lastOk k=decide (k.base=k.ps.length)):=by unfold Hid lastOk;rw [if_pos hla]
    have cKj:=fun w=>cK (-1) k.ps.length w (by omega)
    have hno:codeOk (clr k.set) k.ps.length (-1)=false:=by rw [← Bool.not_eq_true,codeOk_iff];omega
    rw [hno] at cKj
    rw [hla] at r5
    clear hno hla
    go_wp2_with (first|(go_at_call 146;(with_reducible refine (cKj _).mono ?_);rintro e w1 ⟨rfl,U1⟩;have B1:=bcell U1;have Z1:=U1.size;(try simp at Z1);(try rw [Nat.add_one_le_iff] at Z1)))
    go_ret
    refine ⟨by rw [HV.out,HL.out];rfl,?_⟩
    (repeat (first|exact Up.refl _|refine Up.alloc ?_ _|refine Up.trans ?_ (by with_reducible assumption)))
   ·have HL:Hid (lastOk k=codeOk (clr k.set) k.ps.length k.last):=by unfold Hid lastOk;rw [if_neg hla]
    have cKj:=fun w=>cK k.last k.ps.length w (by omega)
    have hl1:(k.last == -1)=false:=by simpa using hla
    cases hco:codeOk (clr k.set) k.ps.length k.last
    all_goals
     rw [hco] at cKj
     have HC:=Lib.hid hco
     clear hco
     go_wp2_with (first|(go_at_call 146;(with_reducible refine (cKj _).mono ?_);rintro e w1 ⟨rfl,U1⟩;have B1:=bcell U1;have Z1:=U1.size;(try simp at Z1);(try rw [Nat.add_one_le_iff] at Z1)))
     go_ret
     refine ⟨by rw [HV.out,HL.out,HC.out];rfl,?_⟩
     (repeat (first|exact Up.refl _|refine Up.alloc ?_ _|refine Up.trans ?_ (by with_reducible assumption)))
end Go.Proofs.YtekogcjdaolcbaaGreatDoor
/- Plain facts: what is valid is what the walks ask; pairs are read on after draws. Conditions: none. -/
namespace Go.Proofs.YtekogcjdaolcbaaGreatDoor
open Go Go.RowKit
theorem ok_of_valid {k:KnD} (h:validK k=true):k.Ok∧(k.last= -1→k.base=k.ps.length):=by
 unfold validK at h
 simp only [Bool.and_eq_true] at h
 obtain ⟨h1,h2,h3,h4,h5⟩:=h
 have hc:=clr_bd h1
 unfold roomOk at h2
 rw [decide_eq_true_eq] at h2
 rw [inB_iff] at h4
 refine ⟨⟨h1,fun i hi=>?_,?_,h4.1,h4.2,?_⟩,fun hl=>?_⟩
 ·rw [prOk_get hi]
  unfold pairsOk at h3
  rw [List.all_eq_true] at h3
  have:=h3 i (List.mem_range.2 hi)
  rw [List.getD_eq_getElem?_getD,List.getElem?_eq_getElem hi,Option.getD_some] at this
  exact this
 ·show k.ps.length+clr k.set+1≤lastC k.set
  omega
 ·unfold lastOk at h5
  split at h5
  ·exact .inl ‹_›
  ·exact .inr h5
 ·unfold lastOk at h5
  rw [if_pos hl] at h5
  simpa using h5
theorem RdP.gr {lo rb:Nat} {w w':World} {v:Value} {ps:List PairD} (h:RdP lo w v ps) (hg:w.grownBy w' (some rb)) (hl:rb<lo):RdP lo w' v ps:=by
 obtain ⟨a,cap,h1,h2,h2',h2'',h3⟩:=h
 refine ⟨a,cap,h1,h2,h2',h2'',fun hp=>?_⟩
 obtain ⟨b,off,e1,e2,e4,e5⟩:=h3 hp
 have hne:some b≠some rb:=fun e=>by cases e;omega
 exact ⟨b,off,e1,e2,Nat.lt_of_lt_of_le e4 hg.size,fun i p hi=>⟨((gcell hg).1 b _ e4 hne).trans (e5 i p hi).1,((gcell hg).1 b _ e4 hne).trans (e5 i p hi).2⟩⟩
theorem RdP.set {lo:Nat} {w:World} {v:Value} {ps:List PairD} (h:RdP lo w v ps) {b:Nat} (hl:b<lo) (i:Nat) (u:Value):RdP lo (w.setCell ⟨b,i,none⟩ u) v ps :=
 h.gr (grownBy_set (grownBy_refl w (some b)) i u) hl
theorem follows_lit {k:KnD} {x:Int} (h0:0≤x) (h1:x<clr k.set):k.follows x=true:=by
 unfold KnD.follows
 rw [show codeOk k.c k.ps.length x=true from codeOk_iff.2 (.inl ⟨h0,h1⟩)]
 rfl
theorem follows_pair {k:KnD} {x:Int} (h0:(clr k.set:Int)+2≤x) (h1:x<clr k.set+2+k.ps.length):k.follows x=true:=by
 unfold KnD.follows
 rw [show codeOk k.c k.ps.length x=true from codeOk_iff.2 (.inr ⟨h0,h1⟩)]
 rfl
theorem follows_next {k:KnD} (h:k.grow=true):k.follows k.next=true:=by
 unfold KnD.follows
 rw [h]
 simp
theorem KnD.Ok.rebase {k:KnD} (h:k.Ok) {b:Int} (h0:0≤b) (h1:b≤k.ps.length):(⟨k.set,k.ps,b,k.last⟩:KnD).Ok:=⟨h.set,h.ps,h.len,h0,h1,h.last⟩
end Go.Proofs.YtekogcjdaolcbaaGreatDoor
/- Walks of the reference's l2Pick and l2Draw. Conditions: the reader is one (Rdr), its place is bounded. -/
namespace Go.Proofs.YtekogcjdaolcbaaGreatDoor
open Go Go.RowKit
theorem RdUp.g {rb:Nat} {B:Value} {c:Nat} {w w':World} (h:RdUp rb B c w w'):w.grownBy w' (some rb):=h.1
def IsFol (k:KnD) (v:Value):Prop:= ∃ x:Int,v= .int .i64 x∧k.follows x=true
theorem wrapFol {k:KnD} {c n:Nat} {t:Int} (F: ∀ x:Int,(c:Int)+2≤x→x<c+2+n→k.follows x=true) (hn:0<n) (hc:c+n≤2000):IsFol k (.int .i64 (wrap64 ((c:Int)+1+1+t % n))):=by
 have h1:=Int.emod_nonneg t (show (n:Int)≠0 by omega)
 have h2:=Int.emod_lt_of_pos t (show (0:Int)<n by omega)
 generalize t % (n:Int)=m at *
 refine ⟨_,rfl,?_⟩
 rw [show wrap64 ((c:Int)+1+1+m)=(c:Int)+1+1+m by unfold wrap64;omega]
 exact F _ (by omega) (by omega)
theorem remFol {k:KnD} {c:Nat} {t:Int} (F: ∀ x:Int,0≤x→x<c→k.follows x=true) (hn:0<c):IsFol k (.int .i64 (t % c)):=⟨_,rfl,F _ (Int.emod_nonneg t (by omega)) (Int.emod_lt_of_pos t (by omega))⟩
set_option maxRecDepth 100000 in
set_option maxHeartbeats 8000000 in
theorem l2Pick_any (k:KnD) (v:Value) (rb:Nat) (B:Value) (w:World) (N:Nat) (h:Rdr rb B w N) (hN:N≤900000000) (hk:k.Ok) (hr:RdP (rb+1) w v k.ps) :
  Calls Tryz.prog 128  #[.pointer (some ⟨rb,0,none⟩),kV k v] w (Drawn rb B 8 (IsFol k) w):=by
 obtain ⟨p,hp,h,HM⟩:=h.least
 have hlt:=h.lt
 have HR:=Lib.hid h
 have hne0: ¬ w.heap.size=rb:=by omega
 have hU:=RdUp.refl rb B 0 w
 have hrt:=fun (wq:World) (hg:w.grownBy wq (some rb))=>hr.gr hg (Nat.lt_succ_self rb)
 have cG:=fun wx hr=>l2Grows_any k v (rb+1) wx hk hr
 have cX:=fun wx hr=>l2Next_any k v (rb+1) wx hk hr
 have cK:=fun wx=>l1Clear_any k.set wx hk.set
 have cE:=fun wx=>l1End_any k.set wx hk.set
 have F1:=Lib.hid (fun x=> @follows_lit k x)
 have F2:=Lib.hid (fun x=> @follows_pair k x)
 have F3:=Lib.hid (@follows_next k)
 obtain ⟨hb1,hb2,hb3,hb4,hb5⟩:=hk.nums
 obtain ⟨a,cap,rfl,hc1,hc2,hc3,-⟩:=id hr
 have hKB:KnAt w.heap.size k (.slice a k.ps.length cap) (w.alloc (.cells #[.int .i64 k.set.ord,.int .i64 k.set.lit,.int .i64 k.set.most,.slice a k.ps.length cap,.int .i64 k.base,.int .i64 k.last] 27)):=(MapKept.heap_alloc w _).1
 clear hr hk
 unfold maxLen at hc2
 simp only [kV,setV] at *
 go_enter Tryz.func128,Tryz.ntmps128
 cases hg:k.grow
 all_goals
  rw [hg] at cG F3
  clear hg
  go_wp2_with (first|(go_at_call 31;((with_reducible refine (pick_at (n:=6) HR.out hU (by intro c hU;(repeat (first|with_reducible assumption|refine RdUp.ups ?_ (by with_reducible assumption)|with_reducible refine RdUp.alloc ?_ _|with_reducible exact RdUp.of (Up.refl _)))) (by omega)).mono ?_);rintro e w' ⟨x,rfl,x0,x1,hU,U⟩;have D:=gcell U.1;have Z:=U.1.size;(try simp at Z);(try have Y0:w.heap.size<w'.heap.size:=(by omega));(try have Y1:w.heap.size+1<w'.heap.size:=(by omega));(try have Y2:w.heap.size+1+1<w'.heap.size:=(by omega));(try have X0:w.heap.size<w'.heap.size+1:=(by omega));(try have X1:w.heap.size+1<w'.heap.size+1:=(by omega));(try have X2:w.heap.size+1+1<w'.heap.size+1:=(by omega));((have hKB:=gbox U.1 hKB (by simp;omega);obtain ⟨hb0,q0,q1,q2,q3,q4,q5⟩:=KnAt.cells hKB))))|(go_at_call 159;(with_reducible refine (cG _ (hrt _ hU.g)).mono ?_);rintro e w2 ⟨rfl,U2⟩;have hU:=hU.ups U2;have hKB:=box_up U2 hKB;clear q0 q1 q2 q3 q4 q5 hb0;obtain ⟨hb0,q0,q1,q2,q3,q4,q5⟩:=KnAt.cells hKB)|(go_at_call 108;(with_reducible refine (cX _ (hrt _ hU.g)).mono ?_);rintro e w3 ⟨rfl,U3⟩;have hU:=hU.ups U3)|(go_at_call 131;(with_reducible refine (cE _).mono ?_);rintro e w4 ⟨rfl,U4⟩;have hU:=hU.ups U4;have hKB:=box_up U4 hKB)|(go_at_call 31;((with_reducible refine (pick_at (n:=256) HR.out hU (by intro c hU;(repeat (first|with_reducible assumption|refine RdUp.ups ?_ (by with_reducible assumption)|with_reducible refine RdUp.alloc ?_ _|with_reducible exact RdUp.of (Up.refl _)))) (by omega)).mono ?_);rintro e w' ⟨y,rfl,y0,y1,hU,U⟩;have D:=gcell U.1;have Z:=U.1.size;(try simp at Z);(try have Y0:w.heap.size<w'.heap.size:=(by omega));(try have Y1:w.heap.size+1<w'.heap.size:=(by omega));(try have Y2:w.heap.size+1+1<w'.heap.size:=(by omega));(try have X0:w.heap.size<w'.heap.size+1:=(by omega));(try have X1:w.heap.size+1<w'.heap.size+1:=(by omega));(try have X2:w.heap.size+1+1<w'.heap.size+1:=(by omega));((have hKB:=gbox U.1 hKB (by simp;omega))))))
  all_goals first
   |(go_ret;refine ⟨_,rfl,⟨k.next,rfl,F3.out (by trivial)⟩,?_⟩;exact RdUp.fin hU (by intro c hU;(repeat (first|with_reducible assumption|refine RdUp.ups ?_ (by with_reducible assumption)|with_reducible refine RdUp.alloc ?_ _|with_reducible exact RdUp.of (Up.refl _)))) (by omega))
   |(go_ret;exact ⟨_,rfl,wrapFol F2.out (by omega) (by omega),by exact RdUp.fin hU (by intro c hU;(repeat (first|with_reducible assumption|refine RdUp.ups ?_ (by with_reducible assumption)|with_reducible refine RdUp.alloc ?_ _|with_reducible exact RdUp.of (Up.refl _)))) (by omega)⟩)
   |skip
  all_goals
   have hr2:=hU.2 _ h
   refine wp_region_rd 6 rb B 1 _ (by kernel_rfl) (by kernel_rfl) hr2 ?_
   simp only [List.take,List.drop]
   repeat (refine wpR_step (fun K hK=>?_);go_simp;(try simp only [↓IntWalk.iteOmega]);first
    |(refine hK _ _ ?_;clear hK K)
    |(refine stepR_c ?_ ?_ ?_
      rotate_left
      ·intro wq hwq hrq;(have hbq:=gcell hwq;(repeat (first|refine fills_no (by rfl) ?_|(refine fills_yes (by rfl) (fun vq hvq=>?_);(try ((obtain ⟨i,rfl,hi0,hi1⟩:=hvq))))));simp only [List.filter_nil,fills];unfold upAt;(try ((obtain ⟨-,r0,r1,r2,r3,r4,r5⟩:=KnAt.cells (gbox hwq hKB (by simp;omega)))));go_simp;(try go_bits);(try simp only [↓IntWalk.iteOmega]);first|exact upOut_value|(apply upOut_call;(go_at_call 86;exact cK _)))
      go_simp;refine hK _ _ ?_;clear hK K)
    |(refine stepR_m (by kernel_rfl) ?_ ?_ (fun wq hwq hrq=>?_) ?_
      rotate_left 2
      ·(have hbq:=gcell hwq;(repeat (first|refine fills_no (by rfl) ?_|(refine fills_yes (by rfl) (fun vq hvq=>?_);(try ((obtain ⟨i,rfl,hi0,hi1⟩:=hvq))))));simp only [List.filter_nil,fills];unfold upAt;(try ((obtain ⟨-,r0,r1,r2,r3,r4,r5⟩:=KnAt.cells (gbox hwq hKB (by simp;omega)))));go_simp;(try go_bits);(try simp only [↓IntWalk.iteOmega]);first|((with_reducible refine upOut_D (fun v _=>IsFol k v) ?_);(((with_reducible refine upOut_make (Up.refl _) ?_);exact remFol F1.out (by omega)))))
      rotate_left
      ·(first|exact (fun _ _ _ h _=>h))
      refine hK _ _ ?_;clear hK K)
    |(refine stepR_d (by rfl) (by kernel_rfl) (fun v _=>pickB 256 v) (fun _ _ _ h _=>h) (fun wq hwq hrq=>?_) ?_
      ·(have hbq:=gcell hwq;(repeat (first|refine fills_no (by rfl) ?_|(refine fills_yes (by rfl) (fun vq hvq=>?_);(try ((obtain ⟨i,rfl,hi0,hi1⟩:=hvq))))));simp only [List.filter_nil,fills];unfold gAt;(try ((obtain ⟨-,r0,r1,r2,r3,r4,r5⟩:=KnAt.cells (gbox hwq hKB (by simp;omega)))));go_simp;(try go_bits);(try simp only [↓IntWalk.iteOmega]);(with_reducible refine gOut_drawn ((pick_any rb B 256 wq _ hrq (by omega))) ?_);decide)
      refine hK _ _ ?_;clear hK K))
   refine wpR_nil (fun wq hwq hrq=>?_)
   simp only [fills]
   rintro v9 h9
   intros
   have hU:=RdUp.made (C:=8) HM (grownBy_trans hU.1 hwq) hrq (by omega)
   go_wp2
   rw [onlyN_normal]
   go_wp2
   go_ret
   exact ⟨_,rfl,h9,by exact RdUp.fin hU (by intro c hU;(repeat (first|with_reducible assumption|refine RdUp.ups ?_ (by with_reducible assumption)|with_reducible refine RdUp.alloc ?_ _|with_reducible exact RdUp.of (Up.refl _)))) (by omega)⟩
end Go.Proofs.YtekogcjdaolcbaaGreatDoor
