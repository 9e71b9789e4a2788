/- The framework, the program's texts and what is shown of them: part 4. -/
import Derived.Test.YtcceeahmcecbnaaGreatDoorWTopOrder3
import Derived.Shelf.Strings.OnBuilder
import Derived.Shelf.Strconv.Itoa0
import Derived.Shelf.Strconv.Itoa1
import Derived.Shelf.LaysM
import Derived.Shelf.Strconv.Itoa2
import Derived.Shelf.Strconv.Itoa3
import Derived.Shelf.Strconv.Itoa4
import Derived.Shelf.LaysC
import Derived.Shelf.Strconv.AtoiAll
import Derived.Shelf.Strconv.ParseIntPublic10
import Derived.Shelf.Strings.Cut
import Derived.Shelf.Strings.Split
import Derived.Shelf.Strings.IndexAny
import Derived.Shelf.Strings.IndexAnyAll
import Derived.Test.YtcceeahmcecbnaaGreatDoorProg
import Derived.Lib.ParseIntBCases
import Derived.Lib.IndexLaws
import Derived.Lib.Join
import Derived.Lib.Split
import Derived.Lib.CountLaws
import Derived.Lib.CutLaws
import Derived.Laws.Slices
import Derived.Lib.ItoaLen
import Derived.Laws.IdiomStrings
import Derived.Shelf.Small.Utf8
import Derived.Laws.Runes
import Derived.Shelf.RegionOpenPlain
import Derived.Laws.RangeAny
import Derived.Lib.OthersKept
import Derived.Lib.AtoiAllCases
import Derived.Lib.LaidTab
import Derived.Handed
import Derived.Lib.AppendStr
import Derived.Laws.BitsLemmas
set_option linter.unusedVariables false
set_option linter.unusedSimpArgs false
set_option maxRecDepth 100000
namespace Go.Proofs
open Go.Shelf
def Tryz.lays156_ren:Go.Shelf.Ren:=⟨fun|156=>173|165=>185|166=>99|169=>102|240=>148|241=>240|276=>199|277=>263|n=>n,fun|31=>22|9=>9|3=>3|4=>4|0=>0|20=>20|72=>184|76=>186|70=>182|37=>93|75=>175|127=>249|164=>258|5=>5|80=>190|n=>n,fun|n=>n⟩
theorem Tryz.lays156:Go.Proofs.Lays.n156 Tryz.prog Tryz.lays156_ren:={
  mixed:=by kernel_rfl
  f156:=Tryz.func173.trans (congrArg some (by kernel_rfl))
  f165:=Tryz.func185.trans (congrArg some (by kernel_rfl))
  f166:=Tryz.func99.trans (congrArg some (by kernel_rfl))
  f169:=Tryz.func102.trans (congrArg some (by kernel_rfl))
  f240:=Tryz.func148.trans (congrArg some (by kernel_rfl))
  f241:=Tryz.func240.trans (congrArg some (by kernel_rfl))
  f276:=Tryz.func199.trans (congrArg some (by kernel_rfl))
  f277:=Tryz.func263.trans (congrArg some (by kernel_rfl))
  t0:=Tryz.underlying0
  a0:=Tryz.isAgg0
  z0:=Tryz.sizeOf0
  v0:=Tryz.zeroValue0
  t3:=Tryz.underlying3
  a3:=Tryz.isAgg3
  z3:=Tryz.sizeOf3
  v3:=Tryz.zeroValue3
  t4:=Tryz.underlying4
  a4:=Tryz.isAgg4
  z4:=Tryz.sizeOf4
  v4:=Tryz.zeroValue4
  t9:=Tryz.underlying9
  a9:=Tryz.isAgg9
  z9:=Tryz.sizeOf9
  v9:=Tryz.zeroValue9
  t20:=Tryz.underlying20
  a20:=Tryz.isAgg20
  z20:=Tryz.sizeOf20
  v20:=Tryz.zeroValue20
  t31:=Tryz.underlying22
  a31:=Tryz.isAgg22
  z31:=Tryz.sizeOf22
  v31:=Tryz.zeroValue22
  t37:=Tryz.underlying93
  a37:=Tryz.isAgg93
  z37:=Tryz.sizeOf93
  v37:=Tryz.zeroValue93
  t70:=Tryz.underlying182
  a70:=Tryz.isAgg182
  z70:=Tryz.sizeOf182
  v70:=Tryz.zeroValue182
  t72:=Tryz.underlying184
  a72:=Tryz.isAgg184
  z72:=Tryz.sizeOf184
  v72:=Tryz.zeroValue184
  t75:=Tryz.underlying175
  a75:=Tryz.isAgg175
  z75:=Tryz.sizeOf175
  v75:=Tryz.zeroValue175
  t76:=Tryz.underlying186
  a76:=Tryz.isAgg186
  z76:=Tryz.sizeOf186
  v76:=Tryz.zeroValue186
  t127:=Tryz.underlying249
  a127:=Tryz.isAgg249
  z127:=Tryz.sizeOf249
  v127:=Tryz.zeroValue249
  t164:=Tryz.underlying258
  a164:=Tryz.isAgg258
  z164:=Tryz.sizeOf258
  v164:=Tryz.zeroValue258 }
theorem Tryz.Builder_Extra_156:Builder.Extra Tryz.prog Tryz.lays156_ren:={
  sizeBuilder:=by kernel_rfl
  liesBuilder:=by kernel_rfl
  t5:=Tryz.underlying5
  a5:=Tryz.isAgg5
  z5:=Tryz.sizeOf5
  v5:=Tryz.zeroValue5
  infoByte:=by kernel_rfl
  cellsByte:=by kernel_rfl
  sizeByte:=by kernel_rfl
  neB5:=by decide }
open Go.RowKit in
theorem Tryz.strings_Join_none (a:Option Addr) (c:Nat) (sep:ByteArray) (w:World) :
    Calls Tryz.prog 173 #[.slice a 0 c,.string sep] w fun e w'=>e=.returned (.string ⟨#[]⟩)/\w'=w:=Any.strings_Join_none Tryz.lays156 Tryz.Builder_Extra_156 a c sep w
open Go.RowKit in
theorem Tryz.strings_Join (bk o c:Nat) (xs:List ByteArray) (sep:ByteArray) (w:World) (hcells:∀ (j:Nat) x,xs[j]?=some x->w.cell? ⟨bk,o+j,none⟩=some (.string x)) (hbk:bk<w.heap.size) (hN:xs.length<=140737488355328) (hcap:xs.length<=c) (hlen:(Lib.join (xs.map (·.data.toList)) sep.data.toList).length<=140737488355328) :
    Calls Tryz.prog 173 #[.slice (some ⟨bk,o,none⟩) xs.length c,.string sep] w fun e w'=>e=.returned (.string ⟨(Lib.join (xs.map (·.data.toList)) sep.data.toList).toArray⟩)/\Below w.heap.size w w':=Any.strings_Join Tryz.lays156 Tryz.Builder_Extra_156 bk o c xs sep w hcells hbk hN hcap hlen
def Tryz.laysM246_ren:Go.Shelf.Ren:=⟨fun|246=>132|283=>178|284=>179|285=>180|286=>181|129=>233|317=>232|318=>234|319=>235|320=>236|337=>261|338=>262|n=>n,fun|2=>2|3=>3|9=>9|4=>4|171=>297|0=>0|53=>102|37=>93|5=>5|173=>300|212=>353|51=>354|20=>20|213=>355|46=>163|232=>399|233=>400|n=>n,fun|17=>1|18=>8|19=>9|n=>n⟩
def Tryz.laysM243_ren:Go.Shelf.Ren:=⟨fun|243=>156|246=>132|283=>178|284=>179|285=>180|286=>181|129=>233|317=>232|318=>234|319=>235|320=>236|337=>261|338=>262|n=>n,fun|3=>3|9=>9|2=>2|4=>4|171=>297|0=>0|53=>102|37=>93|5=>5|173=>300|212=>353|51=>354|20=>20|213=>355|46=>163|232=>399|233=>400|n=>n,fun|17=>1|18=>8|19=>9|n=>n⟩
def Tryz.laysM171_ren:Go.Shelf.Ren:=⟨fun|171=>105|243=>156|246=>132|283=>178|284=>179|285=>180|286=>181|129=>233|317=>232|318=>234|319=>235|320=>236|337=>261|338=>262|n=>n,fun|3=>3|9=>9|2=>2|4=>4|171=>297|0=>0|53=>102|37=>93|5=>5|173=>300|212=>353|51=>354|20=>20|213=>355|46=>163|232=>399|233=>400|n=>n,fun|17=>1|18=>8|19=>9|n=>n⟩
theorem Tryz.laysM171:Go.Proofs.LaysM.n171 Tryz.prog Tryz.laysM171_ren:={
  mixed:=by kernel_rfl
  f129:=Tryz.func233.trans (congrArg some (by kernel_rfl))
  f171:=Tryz.func105.trans (congrArg some (by kernel_rfl))
  f243:=Tryz.func156.trans (congrArg some (by kernel_rfl))
  f246:=Tryz.func132.trans (congrArg some (by kernel_rfl))
  f283:=Tryz.func178.trans (congrArg some (by kernel_rfl))
  f284:=Tryz.func179.trans (congrArg some (by kernel_rfl))
  f285:=Tryz.func180.trans (congrArg some (by kernel_rfl))
  f286:=Tryz.func181.trans (congrArg some (by kernel_rfl))
  f317:=Tryz.func232.trans (congrArg some (by kernel_rfl))
  f318:=Tryz.func234.trans (congrArg some (by kernel_rfl))
  f319:=Tryz.func235.trans (congrArg some (by kernel_rfl))
  f320:=Tryz.func236.trans (congrArg some (by kernel_rfl))
  f337:=Tryz.func261.trans (congrArg some (by kernel_rfl))
  f338:=Tryz.func262.trans (congrArg some (by kernel_rfl))
  t0:=Tryz.underlying0
  a0:=Tryz.isAgg0
  z0:=Tryz.sizeOf0
  v0:=Tryz.zeroValue0
  t2:=Tryz.underlying2
  a2:=Tryz.isAgg2
  z2:=Tryz.sizeOf2
  v2:=Tryz.zeroValue2
  t3:=Tryz.underlying3
  a3:=Tryz.isAgg3
  z3:=Tryz.sizeOf3
  v3:=Tryz.zeroValue3
  t4:=Tryz.underlying4
  a4:=Tryz.isAgg4
  z4:=Tryz.sizeOf4
  v4:=Tryz.zeroValue4
  t5:=Tryz.underlying5
  a5:=Tryz.isAgg5
  z5:=Tryz.sizeOf5
  v5:=Tryz.zeroValue5
  t9:=Tryz.underlying9
  a9:=Tryz.isAgg9
  z9:=Tryz.sizeOf9
  v9:=Tryz.zeroValue9
  t20:=Tryz.underlying20
  a20:=Tryz.isAgg20
  z20:=Tryz.sizeOf20
  v20:=Tryz.zeroValue20
  t37:=Tryz.underlying93
  a37:=Tryz.isAgg93
  z37:=Tryz.sizeOf93
  v37:=Tryz.zeroValue93
  t46:=Tryz.underlying163
  a46:=Tryz.isAgg163
  z46:=Tryz.sizeOf163
  v46:=Tryz.zeroValue163
  t51:=Tryz.underlying354
  a51:=Tryz.isAgg354
  z51:=Tryz.sizeOf354
  v51:=Tryz.zeroValue354
  t53:=Tryz.underlying102
  a53:=Tryz.isAgg102
  z53:=Tryz.sizeOf102
  v53:=Tryz.zeroValue102
  t171:=Tryz.underlying297
  a171:=Tryz.isAgg297
  z171:=Tryz.sizeOf297
  v171:=Tryz.zeroValue297
  t173:=Tryz.underlying300
  a173:=Tryz.isAgg300
  z173:=Tryz.sizeOf300
  v173:=Tryz.zeroValue300
  t212:=Tryz.underlying353
  a212:=Tryz.isAgg353
  z212:=Tryz.sizeOf353
  v212:=Tryz.zeroValue353
  t213:=Tryz.underlying355
  a213:=Tryz.isAgg355
  z213:=Tryz.sizeOf355
  t232:=Tryz.underlying399
  a232:=Tryz.isAgg399
  z232:=Tryz.sizeOf399
  v232:=Tryz.zeroValue399
  t233:=Tryz.underlying400
  a233:=Tryz.isAgg400
  z233:=Tryz.sizeOf400
  v233:=Tryz.zeroValue400
  g17:=by kernel_rfl
  g18:=by kernel_rfl
  g19:=by kernel_rfl
  i0:=by kernel_rfl
  i2:=by kernel_rfl
  i3:=by kernel_rfl
  i4:=by kernel_rfl
  i5:=by kernel_rfl
  i9:=by kernel_rfl
  i20:=by kernel_rfl
  i37:=by kernel_rfl
  i46:=by kernel_rfl
  i51:=by kernel_rfl
  i53:=by kernel_rfl
  i171:=by kernel_rfl
  i173:=by kernel_rfl
  i212:=by kernel_rfl
  i232:=by kernel_rfl
  i233:=by kernel_rfl
  m17:=by kernel_rfl
  m18:=by kernel_rfl
  m19:=by kernel_rfl }
open Go.RowKit Go.Sort Go.Lib in
theorem Tryz.strconv_Itoa (n : Int) (h0 : -9223372036854775808 <= n) (h1 : n <= 9223372036854775807) (w : World) (htab : Lib.TabIs Tryz.prog w "internal/strconv.uint64pow10" .u64 Lib.pow10Tab) :
    Calls Tryz.prog 105 #[.int .i64 n] w fun e w'=>e=.returned (.string ⟨(Lib.itoa n).toArray⟩)/\∃ k os,w'=grow (w.drewN k) os:=Any.strconv_Itoa Tryz.laysM171 n h0 h1 w htab
def Tryz.laysM173_ren:Go.Shelf.Ren:=⟨fun|173=>90|246=>132|283=>178|284=>179|285=>180|286=>181|129=>233|317=>232|318=>234|319=>235|320=>236|337=>261|338=>262|n=>n,fun|2=>2|3=>3|9=>9|4=>4|171=>297|0=>0|53=>102|37=>93|5=>5|173=>300|212=>353|51=>354|20=>20|213=>355|46=>163|232=>399|233=>400|n=>n,fun|17=>1|18=>8|19=>9|n=>n⟩
theorem Tryz.laysM173:Go.Proofs.LaysM.n173 Tryz.prog Tryz.laysM173_ren:={
  mixed:=by kernel_rfl
  f129:=Tryz.func233.trans (congrArg some (by kernel_rfl))
  f173:=Tryz.func90.trans (congrArg some (by kernel_rfl))
  f246:=Tryz.func132.trans (congrArg some (by kernel_rfl))
  f283:=Tryz.func178.trans (congrArg some (by kernel_rfl))
  f284:=Tryz.func179.trans (congrArg some (by kernel_rfl))
  f285:=Tryz.func180.trans (congrArg some (by kernel_rfl))
  f286:=Tryz.func181.trans (congrArg some (by kernel_rfl))
  f317:=Tryz.func232.trans (congrArg some (by kernel_rfl))
  f318:=Tryz.func234.trans (congrArg some (by kernel_rfl))
  f319:=Tryz.func235.trans (congrArg some (by kernel_rfl))
  f320:=Tryz.func236.trans (congrArg some (by kernel_rfl))
  f337:=Tryz.func261.trans (congrArg some (by kernel_rfl))
  f338:=Tryz.func262.trans (congrArg some (by kernel_rfl))
  t0:=Tryz.underlying0
  a0:=Tryz.isAgg0
  z0:=Tryz.sizeOf0
  v0:=Tryz.zeroValue0
  t2:=Tryz.underlying2
  a2:=Tryz.isAgg2
  z2:=Tryz.sizeOf2
  v2:=Tryz.zeroValue2
  t3:=Tryz.underlying3
  a3:=Tryz.isAgg3
  z3:=Tryz.sizeOf3
  v3:=Tryz.zeroValue3
  t4:=Tryz.underlying4
  a4:=Tryz.isAgg4
  z4:=Tryz.sizeOf4
  v4:=Tryz.zeroValue4
  t5:=Tryz.underlying5
  a5:=Tryz.isAgg5
  z5:=Tryz.sizeOf5
  v5:=Tryz.zeroValue5
  t9:=Tryz.underlying9
  a9:=Tryz.isAgg9
  z9:=Tryz.sizeOf9
  v9:=Tryz.zeroValue9
  t20:=Tryz.underlying20
  a20:=Tryz.isAgg20
  z20:=Tryz.sizeOf20
  v20:=Tryz.zeroValue20
  t37:=Tryz.underlying93
  a37:=Tryz.isAgg93
  z37:=Tryz.sizeOf93
  v37:=Tryz.zeroValue93
  t46:=Tryz.underlying163
  a46:=Tryz.isAgg163
  z46:=Tryz.sizeOf163
  v46:=Tryz.zeroValue163
  t51:=Tryz.underlying354
  a51:=Tryz.isAgg354
  z51:=Tryz.sizeOf354
  v51:=Tryz.zeroValue354
  t53:=Tryz.underlying102
  a53:=Tryz.isAgg102
  z53:=Tryz.sizeOf102
  v53:=Tryz.zeroValue102
  t171:=Tryz.underlying297
  a171:=Tryz.isAgg297
  z171:=Tryz.sizeOf297
  v171:=Tryz.zeroValue297
  t173:=Tryz.underlying300
  a173:=Tryz.isAgg300
  z173:=Tryz.sizeOf300
  v173:=Tryz.zeroValue300
  t212:=Tryz.underlying353
  a212:=Tryz.isAgg353
  z212:=Tryz.sizeOf353
  v212:=Tryz.zeroValue353
  t213:=Tryz.underlying355
  a213:=Tryz.isAgg355
  z213:=Tryz.sizeOf355
  t232:=Tryz.underlying399
  a232:=Tryz.isAgg399
  z232:=Tryz.sizeOf399
  v232:=Tryz.zeroValue399
  t233:=Tryz.underlying400
  a233:=Tryz.isAgg400
  z233:=Tryz.sizeOf400
  v233:=Tryz.zeroValue400
  g17:=by kernel_rfl
  g18:=by kernel_rfl
  g19:=by kernel_rfl
  i0:=by kernel_rfl
  i2:=by kernel_rfl
  i3:=by kernel_rfl
  i4:=by kernel_rfl
  i5:=by kernel_rfl
  i9:=by kernel_rfl
  i20:=by kernel_rfl
  i37:=by kernel_rfl
  i46:=by kernel_rfl
  i51:=by kernel_rfl
  i53:=by kernel_rfl
  i171:=by kernel_rfl
  i173:=by kernel_rfl
  i212:=by kernel_rfl
  i232:=by kernel_rfl
  i233:=by kernel_rfl
  m17:=by kernel_rfl
  m18:=by kernel_rfl
  m19:=by kernel_rfl }
open Go.RowKit Go.Sort Go.Lib in
theorem Tryz.strconv_FormatInt_10 (n : Int) (h0 : -9223372036854775808 <= n) (h1 : n <= 9223372036854775807) (w : World) (htab : Lib.TabIs Tryz.prog w "internal/strconv.uint64pow10" .u64 Lib.pow10Tab) :
    Calls Tryz.prog 90 #[.int .i64 n,.int .i64 10] w fun e w'=>e=.returned (.string ⟨(Lib.itoa n).toArray⟩)/\∃ k os,w'=grow (w.drewN k) os:=Any.strconv_FormatInt_10 Tryz.laysM173 n h0 h1 w htab
def Tryz.laysC172_ren:Go.Shelf.Ren:=⟨fun|172=>175|244=>230|245=>144|247=>143|279=>194|280=>195|281=>196|282=>197|287=>193|316=>249|171=>105|205=>250|321=>247|322=>248|243=>156|246=>132|283=>178|284=>179|285=>180|286=>181|129=>233|317=>232|318=>234|319=>235|320=>236|337=>261|338=>262|n=>n,fun|9=>9|3=>3|75=>175|76=>186|4=>4|5=>5|167=>312|37=>93|0=>0|85=>176|2=>2|168=>315|53=>102|175=>313|46=>163|210=>366|127=>249|145=>386|143=>384|21=>21|171=>297|173=>300|212=>353|51=>354|20=>20|213=>355|232=>399|233=>400|80=>190|n=>n,fun|15=>2|16=>3|17=>1|18=>8|19=>9|n=>n⟩
theorem Tryz.laysC172:Go.Proofs.LaysC.n172 Tryz.prog Tryz.laysC172_ren:={
  mixed:=by kernel_rfl
  f129:=Tryz.func233.trans (congrArg some (by kernel_rfl))
  f171:=Tryz.func105.trans (congrArg some (by kernel_rfl))
  f172:=Tryz.func175.trans (congrArg some (by kernel_rfl))
  f205:=Tryz.func250.trans (congrArg some (by kernel_rfl))
  f243:=Tryz.func156.trans (congrArg some (by kernel_rfl))
  f244:=Tryz.func230.trans (congrArg some (by kernel_rfl))
  f245:=Tryz.func144.trans (congrArg some (by kernel_rfl))
  f246:=Tryz.func132.trans (congrArg some (by kernel_rfl))
  f247:=Tryz.func143.trans (congrArg some (by kernel_rfl))
  f279:=Tryz.func194.trans (congrArg some (by kernel_rfl))
  f280:=Tryz.func195.trans (congrArg some (by kernel_rfl))
  f281:=Tryz.func196.trans (congrArg some (by kernel_rfl))
  f282:=Tryz.func197.trans (congrArg some (by kernel_rfl))
  f283:=Tryz.func178.trans (congrArg some (by kernel_rfl))
  f284:=Tryz.func179.trans (congrArg some (by kernel_rfl))
  f285:=Tryz.func180.trans (congrArg some (by kernel_rfl))
  f286:=Tryz.func181.trans (congrArg some (by kernel_rfl))
  f287:=Tryz.func193.trans (congrArg some (by kernel_rfl))
  f316:=Tryz.func249.trans (congrArg some (by kernel_rfl))
  f317:=Tryz.func232.trans (congrArg some (by kernel_rfl))
  f318:=Tryz.func234.trans (congrArg some (by kernel_rfl))
  f319:=Tryz.func235.trans (congrArg some (by kernel_rfl))
  f320:=Tryz.func236.trans (congrArg some (by kernel_rfl))
  f321:=Tryz.func247.trans (congrArg some (by kernel_rfl))
  f322:=Tryz.func248.trans (congrArg some (by kernel_rfl))
  f337:=Tryz.func261.trans (congrArg some (by kernel_rfl))
  f338:=Tryz.func262.trans (congrArg some (by kernel_rfl))
  t0:=Tryz.underlying0
  a0:=Tryz.isAgg0
  z0:=Tryz.sizeOf0
  v0:=Tryz.zeroValue0
  t2:=Tryz.underlying2
  a2:=Tryz.isAgg2
  z2:=Tryz.sizeOf2
  v2:=Tryz.zeroValue2
  t3:=Tryz.underlying3
  a3:=Tryz.isAgg3
  z3:=Tryz.sizeOf3
  v3:=Tryz.zeroValue3
  t4:=Tryz.underlying4
  a4:=Tryz.isAgg4
  z4:=Tryz.sizeOf4
  v4:=Tryz.zeroValue4
  t5:=Tryz.underlying5
  a5:=Tryz.isAgg5
  z5:=Tryz.sizeOf5
  v5:=Tryz.zeroValue5
  t9:=Tryz.underlying9
  a9:=Tryz.isAgg9
  z9:=Tryz.sizeOf9
  v9:=Tryz.zeroValue9
  t20:=Tryz.underlying20
  a20:=Tryz.isAgg20
  z20:=Tryz.sizeOf20
  v20:=Tryz.zeroValue20
  t21:=Tryz.underlying21
  a21:=Tryz.isAgg21
  z21:=Tryz.sizeOf21
  v21:=Tryz.zeroValue21
  t37:=Tryz.underlying93
  a37:=Tryz.isAgg93
  z37:=Tryz.sizeOf93
  v37:=Tryz.zeroValue93
  t46:=Tryz.underlying163
  a46:=Tryz.isAgg163
  z46:=Tryz.sizeOf163
  v46:=Tryz.zeroValue163
  t51:=Tryz.underlying354
  a51:=Tryz.isAgg354
  z51:=Tryz.sizeOf354
  v51:=Tryz.zeroValue354
  t53:=Tryz.underlying102
  a53:=Tryz.isAgg102
  z53:=Tryz.sizeOf102
  v53:=Tryz.zeroValue102
  t75:=Tryz.underlying175
  a75:=Tryz.isAgg175
  z75:=Tryz.sizeOf175
  v75:=Tryz.zeroValue175
  t76:=Tryz.underlying186
  a76:=Tryz.isAgg186
  z76:=Tryz.sizeOf186
  v76:=Tryz.zeroValue186
  t85:=Tryz.underlying176
  a85:=Tryz.isAgg176
  z85:=Tryz.sizeOf176
  v85:=Tryz.zeroValue176
  t127:=Tryz.underlying249
  a127:=Tryz.isAgg249
  z127:=Tryz.sizeOf249
  v127:=Tryz.zeroValue249
  t143:=Tryz.underlying384
  a143:=Tryz.isAgg384
  z143:=Tryz.sizeOf384
  v143:=Tryz.zeroValue384
  t145:=Tryz.underlying386
  a145:=Tryz.isAgg386
  z145:=Tryz.sizeOf386
  v145:=Tryz.zeroValue386
  t167:=Tryz.underlying312
  a167:=Tryz.isAgg312
  z167:=Tryz.sizeOf312
  v167:=Tryz.zeroValue312
  t168:=Tryz.underlying315
  a168:=Tryz.isAgg315
  z168:=Tryz.sizeOf315
  v168:=Tryz.zeroValue315
  t171:=Tryz.underlying297
  a171:=Tryz.isAgg297
  z171:=Tryz.sizeOf297
  v171:=Tryz.zeroValue297
  t173:=Tryz.underlying300
  a173:=Tryz.isAgg300
  z173:=Tryz.sizeOf300
  v173:=Tryz.zeroValue300
  t175:=Tryz.underlying313
  a175:=Tryz.isAgg313
  z175:=Tryz.sizeOf313
  v175:=Tryz.zeroValue313
  t210:=Tryz.underlying366
  a210:=Tryz.isAgg366
  z210:=Tryz.sizeOf366
  v210:=Tryz.zeroValue366
  t212:=Tryz.underlying353
  a212:=Tryz.isAgg353
  z212:=Tryz.sizeOf353
  v212:=Tryz.zeroValue353
  t213:=Tryz.underlying355
  a213:=Tryz.isAgg355
  z213:=Tryz.sizeOf355
  t232:=Tryz.underlying399
  a232:=Tryz.isAgg399
  z232:=Tryz.sizeOf399
  v232:=Tryz.zeroValue399
  t233:=Tryz.underlying400
  a233:=Tryz.isAgg400
  z233:=Tryz.sizeOf400
  v233:=Tryz.zeroValue400
  g15:=by kernel_rfl
  g16:=by kernel_rfl
  g17:=by kernel_rfl
  g18:=by kernel_rfl
  g19:=by kernel_rfl
  t80:=Tryz.underlying190
  a80:=Tryz.isAgg190
  z80:=Tryz.sizeOf190
  v80:=Tryz.zeroValue190
  i0:=by kernel_rfl
  i2:=by kernel_rfl
  i3:=by kernel_rfl
  i4:=by kernel_rfl
  i5:=by kernel_rfl
  i9:=by kernel_rfl
  i20:=by kernel_rfl
  i21:=by kernel_rfl
  i37:=by kernel_rfl
  i46:=by kernel_rfl
  i51:=by kernel_rfl
  i53:=by kernel_rfl
  i75:=by kernel_rfl
  i76:=by kernel_rfl
  i80:=by kernel_rfl
  i85:=by kernel_rfl
  i127:=by kernel_rfl
  i143:=by kernel_rfl
  i145:=by kernel_rfl
  i167:=by kernel_rfl
  i168:=by kernel_rfl
  i171:=by kernel_rfl
  i173:=by kernel_rfl
  i175:=by kernel_rfl
  i210:=by kernel_rfl
  i212:=by kernel_rfl
  i232:=by kernel_rfl
  i233:=by kernel_rfl
  m15:=by kernel_rfl
  m16:=by kernel_rfl
  m17:=by kernel_rfl
  m18:=by kernel_rfl
  m19:=by kernel_rfl
  c0:=by kernel_rfl
  c2:=by kernel_rfl
  c3:=by kernel_rfl
  c4:=by kernel_rfl
  c5:=by kernel_rfl
  c9:=by kernel_rfl
  c20:=by kernel_rfl
  c21:=by kernel_rfl
  c37:=by kernel_rfl
  c46:=by kernel_rfl
  c51:=by kernel_rfl
  c53:=by kernel_rfl
  c75:=by kernel_rfl
  c76:=by kernel_rfl
  c80:=by kernel_rfl
  c85:=by kernel_rfl
  c127:=by kernel_rfl
  c143:=by kernel_rfl
  c145:=by kernel_rfl
  c167:=by kernel_rfl
  c168:=by kernel_rfl
  c171:=by kernel_rfl
  c173:=by kernel_rfl
  c175:=by kernel_rfl
  c210:=by kernel_rfl
  c212:=by kernel_rfl
  c213:=by kernel_rfl
  c232:=by kernel_rfl
  c233:=by kernel_rfl }
open Go.RowKit in
theorem Tryz.strconv_Atoi_ok (s:ByteArray) (hmax:s.size<=9223372036854775806) (v:Int) (h:Lib.atoiAll s.data.toList=.ok v) (w:World) :
    Calls Tryz.prog 175 #[.string s] w fun e w'=>e=.returned (.tuple #[.int .i64 v,.nilIface])/\(w'=w\/∃ t,w'=Lib.bytesWorld w 5 t):=Any.strconv_Atoi_ok Tryz.laysC172 s hmax v h w
open Go.RowKit in
theorem Tryz.strconv_Atoi_syntax (s:ByteArray) (hlim:s.size<=281474976710656) (h:Lib.atoiAll s.data.toList=Lib.NumEnd.syntax) (ev:Value) (w:World) (hv:w.cell? ⟨2,0,none⟩=some ev) (hev:ev=.nilIface\/∃ te pe,ev=.iface te pe) :
    Calls Tryz.prog 175 #[.string s] w fun e w'=>∃ N,e=.returned (.tuple #[.int .i64 (0),.iface 315 (.pointer (some ⟨N,0,none⟩))])/\w.heap.size<=N/\w'.heap[N]?=some (.cells #[.string ⟨#[65,116,111,105]⟩,.string s,ev] 366 (0,0))/\Below w.heap.size w w':=Any.strconv_Atoi_syntax Tryz.laysC172 s hlim h ev w hv hev
open Go.RowKit in
theorem Tryz.strconv_Atoi_range (s:ByteArray) (hlim:s.size<=281474976710656) (h:Lib.atoiAll s.data.toList=.range) (ev:Value) (w:World) (hv:w.cell? ⟨3,0,none⟩=some ev) (hev:ev=.nilIface\/∃ te pe,ev=.iface te pe) :
    Calls Tryz.prog 175 #[.string s] w fun e w'=>∃ N,e=.returned (.tuple #[.int .i64 (Lib.atoiSat s.data.toList),.iface 315 (.pointer (some ⟨N,0,none⟩))])/\w.heap.size<=N/\w'.heap[N]?=some (.cells #[.string ⟨#[65,116,111,105]⟩,.string s,ev] 366 (0,0))/\Below w.heap.size w w':=Any.strconv_Atoi_range Tryz.laysC172 s hlim h ev w hv hev
def Tryz.laysC174_ren:Go.Shelf.Ren:=⟨fun|174=>94|247=>143|245=>144|287=>193|279=>194|280=>195|281=>196|282=>197|321=>247|322=>248|316=>249|171=>105|205=>250|243=>156|246=>132|283=>178|284=>179|285=>180|286=>181|129=>233|317=>232|318=>234|319=>235|320=>236|337=>261|338=>262|n=>n,fun|9=>9|3=>3|2=>2|75=>175|85=>176|4=>4|167=>312|5=>5|53=>102|175=>313|46=>163|168=>315|37=>93|0=>0|210=>366|21=>21|127=>249|145=>386|143=>384|171=>297|173=>300|212=>353|51=>354|20=>20|213=>355|232=>399|233=>400|80=>190|n=>n,fun|15=>2|16=>3|17=>1|18=>8|19=>9|n=>n⟩
theorem Tryz.laysC174:Go.Proofs.LaysC.n174 Tryz.prog Tryz.laysC174_ren:={
  mixed:=by kernel_rfl
  f129:=Tryz.func233.trans (congrArg some (by kernel_rfl))
  f171:=Tryz.func105.trans (congrArg some (by kernel_rfl))
  f174:=Tryz.func94.trans (congrArg some (by kernel_rfl))
  f205:=Tryz.func250.trans (congrArg some (by kernel_rfl))
  f243:=Tryz.func156.trans (congrArg some (by kernel_rfl))
  f245:=Tryz.func144.trans (congrArg some (by kernel_rfl))
  f246:=Tryz.func132.trans (congrArg some (by kernel_rfl))
  f247:=Tryz.func143.trans (congrArg some (by kernel_rfl))
  f279:=Tryz.func194.trans (congrArg some (by kernel_rfl))
  f280:=Tryz.func195.trans (congrArg some (by kernel_rfl))
  f281:=Tryz.func196.trans (congrArg some (by kernel_rfl))
  f282:=Tryz.func197.trans (congrArg some (by kernel_rfl))
  f283:=Tryz.func178.trans (congrArg some (by kernel_rfl))
  f284:=Tryz.func179.trans (congrArg some (by kernel_rfl))
  f285:=Tryz.func180.trans (congrArg some (by kernel_rfl))
  f286:=Tryz.func181.trans (congrArg some (by kernel_rfl))
  f287:=Tryz.func193.trans (congrArg some (by kernel_rfl))
  f316:=Tryz.func249.trans (congrArg some (by kernel_rfl))
  f317:=Tryz.func232.trans (congrArg some (by kernel_rfl))
  f318:=Tryz.func234.trans (congrArg some (by kernel_rfl))
  f319:=Tryz.func235.trans (congrArg some (by kernel_rfl))
  f320:=Tryz.func236.trans (congrArg some (by kernel_rfl))
  f321:=Tryz.func247.trans (congrArg some (by kernel_rfl))
  f322:=Tryz.func248.trans (congrArg some (by kernel_rfl))
  f337:=Tryz.func261.trans (congrArg some (by kernel_rfl))
  f338:=Tryz.func262.trans (congrArg some (by kernel_rfl))
  t0:=Tryz.underlying0
  a0:=Tryz.isAgg0
  z0:=Tryz.sizeOf0
  v0:=Tryz.zeroValue0
  t2:=Tryz.underlying2
  a2:=Tryz.isAgg2
  z2:=Tryz.sizeOf2
  v2:=Tryz.zeroValue2
  t3:=Tryz.underlying3
  a3:=Tryz.isAgg3
  z3:=Tryz.sizeOf3
  v3:=Tryz.zeroValue3
  t4:=Tryz.underlying4
  a4:=Tryz.isAgg4
  z4:=Tryz.sizeOf4
  v4:=Tryz.zeroValue4
  t5:=Tryz.underlying5
  a5:=Tryz.isAgg5
  z5:=Tryz.sizeOf5
  v5:=Tryz.zeroValue5
  t9:=Tryz.underlying9
  a9:=Tryz.isAgg9
  z9:=Tryz.sizeOf9
  v9:=Tryz.zeroValue9
  t20:=Tryz.underlying20
  a20:=Tryz.isAgg20
  z20:=Tryz.sizeOf20
  v20:=Tryz.zeroValue20
  t21:=Tryz.underlying21
  a21:=Tryz.isAgg21
  z21:=Tryz.sizeOf21
  v21:=Tryz.zeroValue21
  t37:=Tryz.underlying93
  a37:=Tryz.isAgg93
  z37:=Tryz.sizeOf93
  v37:=Tryz.zeroValue93
  t46:=Tryz.underlying163
  a46:=Tryz.isAgg163
  z46:=Tryz.sizeOf163
  v46:=Tryz.zeroValue163
  t51:=Tryz.underlying354
  a51:=Tryz.isAgg354
  z51:=Tryz.sizeOf354
  v51:=Tryz.zeroValue354
  t53:=Tryz.underlying102
  a53:=Tryz.isAgg102
  z53:=Tryz.sizeOf102
  v53:=Tryz.zeroValue102
  t75:=Tryz.underlying175
  a75:=Tryz.isAgg175
  z75:=Tryz.sizeOf175
  v75:=Tryz.zeroValue175
  t85:=Tryz.underlying176
  a85:=Tryz.isAgg176
  z85:=Tryz.sizeOf176
  v85:=Tryz.zeroValue176
  t127:=Tryz.underlying249
  a127:=Tryz.isAgg249
  z127:=Tryz.sizeOf249
  v127:=Tryz.zeroValue249
  t143:=Tryz.underlying384
  a143:=Tryz.isAgg384
  z143:=Tryz.sizeOf384
  v143:=Tryz.zeroValue384
  t145:=Tryz.underlying386
  a145:=Tryz.isAgg386
  z145:=Tryz.sizeOf386
  v145:=Tryz.zeroValue386
  t167:=Tryz.underlying312
  a167:=Tryz.isAgg312
  z167:=Tryz.sizeOf312
  v167:=Tryz.zeroValue312
  t168:=Tryz.underlying315
  a168:=Tryz.isAgg315
  z168:=Tryz.sizeOf315
  v168:=Tryz.zeroValue315
  t171:=Tryz.underlying297
  a171:=Tryz.isAgg297
  z171:=Tryz.sizeOf297
  v171:=Tryz.zeroValue297
  t173:=Tryz.underlying300
  a173:=Tryz.isAgg300
  z173:=Tryz.sizeOf300
  v173:=Tryz.zeroValue300
  t175:=Tryz.underlying313
  a175:=Tryz.isAgg313
  z175:=Tryz.sizeOf313
  v175:=Tryz.zeroValue313
  t210:=Tryz.underlying366
  a210:=Tryz.isAgg366
  z210:=Tryz.sizeOf366
  v210:=Tryz.zeroValue366
  t212:=Tryz.underlying353
  a212:=Tryz.isAgg353
  z212:=Tryz.sizeOf353
  v212:=Tryz.zeroValue353
  t213:=Tryz.underlying355
  a213:=Tryz.isAgg355
  z213:=Tryz.sizeOf355
  t232:=Tryz.underlying399
  a232:=Tryz.isAgg399
  z232:=Tryz.sizeOf399
  v232:=Tryz.zeroValue399
  t233:=Tryz.underlying400
  a233:=Tryz.isAgg400
  z233:=Tryz.sizeOf400
  v233:=Tryz.zeroValue400
  g15:=by kernel_rfl
  g16:=by kernel_rfl
  g17:=by kernel_rfl
  g18:=by kernel_rfl
  g19:=by kernel_rfl
  t80:=Tryz.underlying190
  a80:=Tryz.isAgg190
  z80:=Tryz.sizeOf190
  v80:=Tryz.zeroValue190
  i0:=by kernel_rfl
  i2:=by kernel_rfl
  i3:=by kernel_rfl
  i4:=by kernel_rfl
  i5:=by kernel_rfl
  i9:=by kernel_rfl
  i20:=by kernel_rfl
  i21:=by kernel_rfl
  i37:=by kernel_rfl
  i46:=by kernel_rfl
  i51:=by kernel_rfl
  i53:=by kernel_rfl
  i75:=by kernel_rfl
  i80:=by kernel_rfl
  i85:=by kernel_rfl
  i127:=by kernel_rfl
  i143:=by kernel_rfl
  i145:=by kernel_rfl
  i167:=by kernel_rfl
  i168:=by kernel_rfl
  i171:=by kernel_rfl
  i173:=by kernel_rfl
  i175:=by kernel_rfl
  i210:=by kernel_rfl
  i212:=by kernel_rfl
  i232:=by kernel_rfl
  i233:=by kernel_rfl
  m15:=by kernel_rfl
  m16:=by kernel_rfl
  m17:=by kernel_rfl
  m18:=by kernel_rfl
  m19:=by kernel_rfl
  c0:=by kernel_rfl
  c2:=by kernel_rfl
  c3:=by kernel_rfl
  c4:=by kernel_rfl
  c5:=by kernel_rfl
  c9:=by kernel_rfl
  c20:=by kernel_rfl
  c21:=by kernel_rfl
  c37:=by kernel_rfl
  c46:=by kernel_rfl
  c51:=by kernel_rfl
  c53:=by kernel_rfl
  c75:=by kernel_rfl
  c80:=by kernel_rfl
  c85:=by kernel_rfl
  c127:=by kernel_rfl
  c143:=by kernel_rfl
  c145:=by kernel_rfl
  c167:=by kernel_rfl
  c168:=by kernel_rfl
  c171:=by kernel_rfl
  c173:=by kernel_rfl
  c175:=by kernel_rfl
  c210:=by kernel_rfl
  c212:=by kernel_rfl
  c213:=by kernel_rfl
  c232:=by kernel_rfl
  c233:=by kernel_rfl }
open Go.RowKit in
theorem Tryz.strconv_ParseInt_10_at64_ok (s:ByteArray) (hmax:s.size<=9223372036854775806) (v:Int) (h:Lib.parseIntB 64 s.data.toList=.ok v) (w:World) :
    Calls Tryz.prog 94 #[.string s,.int .i64 10,.int .i64 64] w fun e w'=>e=.returned (.tuple #[.int .i64 v,.nilIface])/\(w'=w\/∃ t,w'=Lib.bytesWorld w 5 t):=Any.strconv_ParseInt_10_at64_ok Tryz.laysC174 s hmax v h w
open Go.RowKit in
theorem Tryz.strconv_ParseInt_10_at64_syntax (s:ByteArray) (hlim:s.size<=281474976710656) (h:Lib.parseIntB 64 s.data.toList=Lib.NumEnd.syntax) (ev:Value) (w:World) (hv:w.cell? ⟨2,0,none⟩=some ev) (hev:ev=.nilIface\/∃ te pe,ev=.iface te pe) :
    Calls Tryz.prog 94 #[.string s,.int .i64 10,.int .i64 64] w fun e w'=>∃ N,e=.returned (.tuple #[.int .i64 (0),.iface 315 (.pointer (some ⟨N,0,none⟩))])/\w.heap.size<=N/\w'.heap[N]?=some (.cells #[.string ⟨#[80,97,114,115,101,73,110,116]⟩,.string s,ev] 366 (0,0))/\Below w.heap.size w w':=Any.strconv_ParseInt_10_at64_syntax Tryz.laysC174 s hlim h ev w hv hev
open Go.RowKit in
theorem Tryz.strconv_ParseInt_10_at64_range (s:ByteArray) (hlim:s.size<=281474976710656) (h:Lib.parseIntB 64 s.data.toList=.range) (ev:Value) (w:World) (hv:w.cell? ⟨3,0,none⟩=some ev) (hev:ev=.nilIface\/∃ te pe,ev=.iface te pe) :
    Calls Tryz.prog 94 #[.string s,.int .i64 10,.int .i64 64] w fun e w'=>∃ N,e=.returned (.tuple #[.int .i64 (Lib.intSat 64 s.data.toList),.iface 315 (.pointer (some ⟨N,0,none⟩))])/\w.heap.size<=N/\w'.heap[N]?=some (.cells #[.string ⟨#[80,97,114,115,101,73,110,116]⟩,.string s,ev] 366 (0,0))/\Below w.heap.size w w':=Any.strconv_ParseInt_10_at64_range Tryz.laysC174 s hlim h ev w hv hev
def Tryz.lays220_ren:Go.Shelf.Ren:=⟨fun|220=>200|219=>243|217=>264|225=>265|224=>266|267=>267|266=>276|314=>277|n=>n,fun|9=>9|4=>4|3=>3|5=>5|46=>163|146=>357|51=>354|n=>n,fun|1=>5|n=>n⟩
def Tryz.lays145_ren:Go.Shelf.Ren:=⟨fun|145=>149|220=>200|219=>243|217=>264|225=>265|224=>266|267=>267|266=>276|314=>277|n=>n,fun|9=>9|4=>4|59=>246|3=>3|5=>5|46=>163|146=>357|51=>354|n=>n,fun|1=>5|n=>n⟩
theorem Tryz.lays145:Go.Proofs.Lays.n145 Tryz.prog Tryz.lays145_ren:={
  mixed:=by kernel_rfl
  f145:=Tryz.func149.trans (congrArg some (by kernel_rfl))
  f217:=Tryz.func264.trans (congrArg some (by kernel_rfl))
  f219:=Tryz.func243.trans (congrArg some (by kernel_rfl))
  f220:=Tryz.func200.trans (congrArg some (by kernel_rfl))
  f224:=Tryz.func266.trans (congrArg some (by kernel_rfl))
  f225:=Tryz.func265.trans (congrArg some (by kernel_rfl))
  f266:=Tryz.func276.trans (congrArg some (by kernel_rfl))
  f267:=Tryz.func267.trans (congrArg some (by kernel_rfl))
  f314:=Tryz.func277.trans (congrArg some (by kernel_rfl))
  t3:=Tryz.underlying3
  a3:=Tryz.isAgg3
  z3:=Tryz.sizeOf3
  v3:=Tryz.zeroValue3
  t4:=Tryz.underlying4
  a4:=Tryz.isAgg4
  z4:=Tryz.sizeOf4
  v4:=Tryz.zeroValue4
  t5:=Tryz.underlying5
  a5:=Tryz.isAgg5
  z5:=Tryz.sizeOf5
  v5:=Tryz.zeroValue5
  t9:=Tryz.underlying9
  a9:=Tryz.isAgg9
  z9:=Tryz.sizeOf9
  v9:=Tryz.zeroValue9
  t46:=Tryz.underlying163
  a46:=Tryz.isAgg163
  z46:=Tryz.sizeOf163
  v46:=Tryz.zeroValue163
  t51:=Tryz.underlying354
  a51:=Tryz.isAgg354
  z51:=Tryz.sizeOf354
  v51:=Tryz.zeroValue354
  t59:=Tryz.underlying246
  a59:=Tryz.isAgg246
  z59:=Tryz.sizeOf246
  v59:=Tryz.zeroValue246
  t146:=Tryz.underlying357
  a146:=Tryz.isAgg357
  z146:=Tryz.sizeOf357
  v146:=Tryz.zeroValue357
  g1:=by kernel_rfl }
open Go.RowKit Go.Lib in
theorem Tryz.strings_Cut (s sep:ByteArray) (m:Int) (w:World) (hs:s.size<4294967281) (hm:w.cell? ⟨5,0,none⟩=some (.int .i64 m)) :
    Calls Tryz.prog 149 #[.string s,.string sep] w fun e w'=>e=.returned (.tuple #[.string ⟨(Lib.cut s.data.toList sep.data.toList).1.toArray⟩,.string ⟨(Lib.cut s.data.toList sep.data.toList).2.1.toArray⟩,.bool (Lib.cut s.data.toList sep.data.toList).2.2])/\∃ n,w'=w.drewN n:=Any.strings_Cut Tryz.lays145 s sep m w hs hm
def Tryz.lays221_ren:Go.Shelf.Ren:=⟨fun|221=>135|268=>186|138=>187|143=>188|195=>241|197=>190|218=>242|219=>243|260=>244|217=>264|225=>265|224=>266|267=>267|266=>276|314=>277|n=>n,fun|9=>9|3=>3|31=>22|4=>4|0=>0|105=>309|21=>21|5=>5|46=>163|119=>379|139=>382|138=>381|146=>357|51=>354|n=>n,fun|1=>5|3=>6|4=>7|n=>n⟩
def Tryz.lays146_ren:Go.Shelf.Ren:=⟨fun|146=>92|221=>135|268=>186|138=>187|143=>188|195=>241|197=>190|218=>242|219=>243|260=>244|217=>264|225=>265|224=>266|267=>267|266=>276|314=>277|n=>n,fun|9=>9|31=>22|3=>3|4=>4|0=>0|105=>309|21=>21|5=>5|46=>163|119=>379|139=>382|138=>381|146=>357|51=>354|n=>n,fun|1=>5|3=>6|4=>7|n=>n⟩
theorem Tryz.lays146:Go.Proofs.Lays.n146 Tryz.prog Tryz.lays146_ren:={
  mixed:=by kernel_rfl
  f138:=Tryz.func187.trans (congrArg some (by kernel_rfl))
  f143:=Tryz.func188.trans (congrArg some (by kernel_rfl))
  f146:=Tryz.func92.trans (congrArg some (by kernel_rfl))
  f195:=Tryz.func241.trans (congrArg some (by kernel_rfl))
  f197:=Tryz.func190.trans (congrArg some (by kernel_rfl))
  f217:=Tryz.func264.trans (congrArg some (by kernel_rfl))
  f218:=Tryz.func242.trans (congrArg some (by kernel_rfl))
  f219:=Tryz.func243.trans (congrArg some (by kernel_rfl))
  f221:=Tryz.func135.trans (congrArg some (by kernel_rfl))
  f224:=Tryz.func266.trans (congrArg some (by kernel_rfl))
  f225:=Tryz.func265.trans (congrArg some (by kernel_rfl))
  f260:=Tryz.func244.trans (congrArg some (by kernel_rfl))
  f266:=Tryz.func276.trans (congrArg some (by kernel_rfl))
  f267:=Tryz.func267.trans (congrArg some (by kernel_rfl))
  f268:=Tryz.func186.trans (congrArg some (by kernel_rfl))
  f314:=Tryz.func277.trans (congrArg some (by kernel_rfl))
  t0:=Tryz.underlying0
  a0:=Tryz.isAgg0
  z0:=Tryz.sizeOf0
  v0:=Tryz.zeroValue0
  t3:=Tryz.underlying3
  a3:=Tryz.isAgg3
  z3:=Tryz.sizeOf3
  v3:=Tryz.zeroValue3
  t4:=Tryz.underlying4
  a4:=Tryz.isAgg4
  z4:=Tryz.sizeOf4
  v4:=Tryz.zeroValue4
  t5:=Tryz.underlying5
  a5:=Tryz.isAgg5
  z5:=Tryz.sizeOf5
  v5:=Tryz.zeroValue5
  t9:=Tryz.underlying9
  a9:=Tryz.isAgg9
  z9:=Tryz.sizeOf9
  v9:=Tryz.zeroValue9
  t21:=Tryz.underlying21
  a21:=Tryz.isAgg21
  z21:=Tryz.sizeOf21
  v21:=Tryz.zeroValue21
  t31:=Tryz.underlying22
  a31:=Tryz.isAgg22
  z31:=Tryz.sizeOf22
  v31:=Tryz.zeroValue22
  t46:=Tryz.underlying163
  a46:=Tryz.isAgg163
  z46:=Tryz.sizeOf163
  v46:=Tryz.zeroValue163
  t51:=Tryz.underlying354
  a51:=Tryz.isAgg354
  z51:=Tryz.sizeOf354
  v51:=Tryz.zeroValue354
  t105:=Tryz.underlying309
  a105:=Tryz.isAgg309
  z105:=Tryz.sizeOf309
  v105:=Tryz.zeroValue309
  t119:=Tryz.underlying379
  a119:=Tryz.isAgg379
  z119:=Tryz.sizeOf379
  t138:=Tryz.underlying381
  a138:=Tryz.isAgg381
  z138:=Tryz.sizeOf381
  v138:=Tryz.zeroValue381
  t139:=Tryz.underlying382
  a139:=Tryz.isAgg382
  z139:=Tryz.sizeOf382
  v139:=Tryz.zeroValue382
  t146:=Tryz.underlying357
  a146:=Tryz.isAgg357
  z146:=Tryz.sizeOf357
  v146:=Tryz.zeroValue357
  g1:=by kernel_rfl
  g3:=by kernel_rfl
  g4:=by kernel_rfl }
open Go.RowKit Go.Lib in
theorem Tryz.strings_Split (s sep:ByteArray) (m:Int) (w:World) (hs:s.size<4294967281) (hm:w.cell? ⟨5,0,none⟩=some (.int .i64 m)) (h1:1<=sep.size) :
    Calls Tryz.prog 92 #[.string s,.string sep] w fun e w' =>
      e=.returned (.slice (some ⟨w.heap.size,0,none⟩) (Lib.countB s sep+1) (Lib.countB s sep+1))/\w'=w.alloc (.cells ((Lib.splitB sep 0 (Lib.countB s sep) s).map Value.string).toArray 9):=Any.strings_Split Tryz.lays146 (by kernel_rfl) s sep m w hs hm h1
def Tryz.lays153_ren:Go.Shelf.Ren:=⟨fun|153=>275|152=>245|226=>284|227=>138|228=>189|137=>268|119=>269|224=>266|225=>265|217=>264|266=>276|n=>n,fun|9=>9|3=>3|4=>4|5=>5|21=>21|117=>240|116=>239|0=>0|46=>163|124=>243|n=>n,fun|n=>n⟩
theorem Tryz.lays153:Go.Proofs.Lays.n153 Tryz.prog Tryz.lays153_ren:={
  mixed:=by kernel_rfl
  f119:=Tryz.func269.trans (congrArg some (by kernel_rfl))
  f137:=Tryz.func268.trans (congrArg some (by kernel_rfl))
  f152:=Tryz.func245.trans (congrArg some (by kernel_rfl))
  f153:=Tryz.func275.trans (congrArg some (by kernel_rfl))
  f217:=Tryz.func264.trans (congrArg some (by kernel_rfl))
  f224:=Tryz.func266.trans (congrArg some (by kernel_rfl))
  f225:=Tryz.func265.trans (congrArg some (by kernel_rfl))
  f226:=Tryz.func284.trans (congrArg some (by kernel_rfl))
  f227:=Tryz.func138.trans (congrArg some (by kernel_rfl))
  f228:=Tryz.func189.trans (congrArg some (by kernel_rfl))
  f266:=Tryz.func276.trans (congrArg some (by kernel_rfl))
  t0:=Tryz.underlying0
  a0:=Tryz.isAgg0
  z0:=Tryz.sizeOf0
  v0:=Tryz.zeroValue0
  t3:=Tryz.underlying3
  a3:=Tryz.isAgg3
  z3:=Tryz.sizeOf3
  v3:=Tryz.zeroValue3
  t4:=Tryz.underlying4
  a4:=Tryz.isAgg4
  z4:=Tryz.sizeOf4
  v4:=Tryz.zeroValue4
  t5:=Tryz.underlying5
  a5:=Tryz.isAgg5
  z5:=Tryz.sizeOf5
  v5:=Tryz.zeroValue5
  t9:=Tryz.underlying9
  a9:=Tryz.isAgg9
  z9:=Tryz.sizeOf9
  v9:=Tryz.zeroValue9
  t21:=Tryz.underlying21
  a21:=Tryz.isAgg21
  z21:=Tryz.sizeOf21
  v21:=Tryz.zeroValue21
  t46:=Tryz.underlying163
  a46:=Tryz.isAgg163
  z46:=Tryz.sizeOf163
  v46:=Tryz.zeroValue163
  t116:=Tryz.underlying239
  a116:=Tryz.isAgg239
  z116:=Tryz.sizeOf239
  t117:=Tryz.underlying240
  a117:=Tryz.isAgg240
  z117:=Tryz.sizeOf240
  v117:=Tryz.zeroValue240
  t124:=Tryz.underlying243
  a124:=Tryz.isAgg243
  z124:=Tryz.sizeOf243
  v124:=Tryz.zeroValue243 }
end Go.Proofs
namespace Go.Proofs.YtcceeahmcecbnaaGreatDoor
open Go.Sx Go.RowKit
theorem i64 {x:Int} (h:-9223372036854775808<=x/\x<=9223372036854775807):InR .i64 x:=h
theorem zLF {x:Int} (h:InR .i64 x):-9223372036854775808<=x/\x<=9223372036854775807:=h
theorem wrap64 {x:Int} (h:-9223372036854775808<=x/\x<=9223372036854775807):IntKind.wrap .i64 x=x:=by
  simp [IntKind.wrap,IntKind.signed,IntKind.bits]; omega
def ofL (l:List UInt8):ByteArray:=⟨l.toArray⟩
theorem zcm (l:List UInt8):(ofL l).data.toList=l:=rfl
theorem zat (l:List UInt8):(ofL l).size=l.length:=rfl
theorem zb9 (s:ByteArray):ofL s.data.toList=s:=by cases s; rfl
theorem zgY (a b:ByteArray):(a++b).data.toList=a.data.toList++b.data.toList:=by simp
theorem zxK (a b:List UInt8):ofL a++ofL b=ofL (a++b):=by
  rw [<- zb9 (ofL a++ofL b),zgY]; rfl
theorem zmO {a b:List UInt8} (h:ofL a=ofL b):a=b:=by
  have:=congrArg (fun s:ByteArray=>s.data.toList) h
  exact this
theorem zso {n:Nat} (h:n<256):(UInt8.ofNat n).toNat=n:=by simp; omega
theorem zcY:∀ (u:Nat),∀ c∈Lib.decDigits u,48<=c.toNat/\c.toNat<=57:=by
  intro u
  induction u using Nat.strongRecOn with
  |_ u ih =>
    intro c hc
    rw [Lib.decDigits] at hc
    split at hc
    · obtain rfl:=List.mem_singleton.1 hc
      rw [zso (by omega)]; omega
    · rcases List.mem_append.1 hc with h|h
      · exact ih (u/10) (by omega) c h
      · obtain rfl:=List.mem_singleton.1 h
        rw [zso (by omega)]; omega
theorem zpd (u:Nat):Lib.decDigits u≠[]:=by
  rw [Lib.decDigits]; split<;>simp
theorem zm6 {M:Nat}:∀ {l:List UInt8} {acc v:Nat} (r:List UInt8),Lib.parseUintM M acc l=.ok v->Lib.parseUintM M acc (l++r)=Lib.parseUintM M v r
  |[],acc,v,r,h => by
    simp only [Lib.parseUintM,Lib.NumEnd.ok.injEq] at h
    subst h; rfl
  |c::l,acc,v,r,h => by
    simp only [Lib.parseUintM,List.cons_append] at h ⊢
    split at h
    · rename_i hd
      rw [if_pos hd]
      split at h
      · cases h
      · rename_i h2
        rw [if_neg h2]
        split at h
        · cases h
        · rename_i h3
          rw [if_neg h3]
          exact zm6 r h
    · cases h
theorem zvM:∀ (u:Nat),u<=1099511627776->Lib.parseUintM 18446744073709551615 0 (Lib.decDigits u)=.ok u:=by
  intro u
  induction u using Nat.strongRecOn with
  |_ u ih =>
    intro hu
    rw [Lib.decDigits]
    split
    · rename_i h
      simp only [Lib.parseUintM]
      rw [zso (by omega),if_pos (by omega),if_neg (by omega),if_neg (by omega)]
      congr 1; omega
    · rename_i h
      rw [zm6 _ (ih (u/10) (by omega) (by omega))]
      simp only [Lib.parseUintM]
      rw [zso (by omega),if_pos (by omega),if_neg (by omega),if_neg (by omega)]
      congr 1; omega
theorem zdX {n:Int} (h:0<=n):Lib.itoa n=Lib.decDigits n.toNat:=by
  unfold Lib.itoa; rw [if_neg (by omega)]
theorem zep {n:Int} (h:0<=n/\n<=1099511627776):Lib.parseIntB 64 (Lib.itoa n)=.ok n:=by
  rw [zdX h.1]
  have hd:=zcY n.toNat
  cases hl:Lib.decDigits n.toNat with
  |nil => exact absurd hl (zpd _)
  |cons c r =>
    have hc:=hd c (by rw [hl]; exact List.mem_cons_self ..)
    rw [Lib.parseIntB_plain 64 c r (by omega) (by omega),<- hl]
    unfold Lib.parseUintB
    rw [if_neg (zpd _),show (2:Nat)^64-1=18446744073709551615 by decide,zvM _ (by omega)]
    show (if (2:Nat)^(64-1)<=n.toNat then _ else _)=_
    rw [if_neg (by have:(2:Nat)^(64-1)=9223372036854775808:=by decide
                   omega)]
    congr 1; omega
theorem zi6 {n:Int} (h:0<=n) {c:UInt8} (hc:c.toNat<48):c∉Lib.itoa n:=fun hm=>by
  rw [zdX h] at hm
  have:=zcY _ _ hm
  omega
theorem zzC {n:Int} (h:0<=n) {c:UInt8} (hc:57<c.toNat):c∉Lib.itoa n:=fun hm=>by
  rw [zdX h] at hm
  have:=zcY _ _ hm
  omega
theorem zsQ {c:UInt8}:∀ {a:List UInt8} (b:List UInt8),c∉a->Lib.index (a++c::b) [c]=a.length
  |[],b,_ => by rw [Lib.index_one]; simp [Lib.indexByte]
  |x::a,b,h => by
    have hx:¬ x=c:=fun he=>h (by rw [he]; exact List.mem_cons_self ..)
    have:=zsQ (a:=a) b fun hm=>h (List.mem_cons_of_mem _ hm)
    rw [Lib.index_one] at this ⊢
    simp only [List.cons_append,Lib.indexByte,this,beq_iff_eq,hx,if_false]
    rw [if_neg (by omega)]
    simp
theorem zsR {c:UInt8}:∀ {a:List UInt8},c∉a->Lib.index a [c]=-1
  |[],_ => rfl
  |x::a,h => by
    have hx:¬ x=c:=fun he=>h (by rw [he]; exact List.mem_cons_self ..)
    have:=zsR (a:=a) fun hm=>h (List.mem_cons_of_mem _ hm)
    rw [Lib.index_one] at this ⊢
    simp only [Lib.indexByte,this,beq_iff_eq,hx,if_false,if_true]
def one (c:UInt8):ByteArray:=⟨#[c]⟩
theorem zC3 {c:UInt8} (a b:List UInt8):(ofL (a++c::b)).extract 0 (a.length+0)=ofL a:=by
  rw [<- zb9 ((ofL (a++c::b)).extract 0 (a.length+0))]
  congr 1
  simp [ofL]
theorem zzv {c:UInt8} (a b:List UInt8):(ofL (a++c::b)).extract (a.length+(one c).size) (ofL (a++c::b)).size=ofL b:=by
  rw [<- zb9 ((ofL (a++c::b)).extract _ _)]
  congr 1
  have hd:(one c).size=1:=rfl
  rw [hd,zat]
  simp [ofL]
  exact List.take_of_length_le (by omega)
theorem zEG {c:UInt8} {a b:List UInt8} (h:c∉a) (k:Nat):Lib.splitB (one c) 0 (k+1) (ofL (a++c::b))=ofL a::Lib.splitB (one c) 0 k (ofL b):=by
  rw [Lib.splitB_hit (one c) 0 k _ a.length (zsQ b h),zC3,zzv]
theorem zCI {c:UInt8} {a b:List UInt8} (h:c∉a):Lib.countB (ofL (a++c::b)) (one c)=1+Lib.countB (ofL b) (one c):=by
  rw [Lib.countB_hit (ofL (a++c::b)) (one c) a.length (Nat.le_refl 1) (zsQ b h),zzv]
theorem zAP {c:UInt8} {a:List UInt8} (h:c∉a):Lib.countB (ofL a) (one c)=0:=Lib.countB_miss _ _ (zsR h)
theorem zxa {c:UInt8} {a:List UInt8} (b:List UInt8) (h:c∉a):Lib.cut (a++c::b) [c]=(a,b,true):=by
  unfold Lib.cut
  rw [zsQ b h,if_pos (by omega)]
  simp
theorem zdA {c:UInt8}:∀ (l:List (List UInt8)) (x:List UInt8),(∀ y∈x::l,c∉y)->Lib.countB (ofL (Lib.join (x::l) [c])) (one c)=l.length/\Lib.splitB (one c) 0 l.length (ofL (Lib.join (x::l) [c]))=(x::l).map ofL
  |[],x,h => by
    rw [Lib.join_one]
    exact ⟨zAP (h x (List.mem_cons_self ..)),rfl⟩
  |y::l,x,h => by
    obtain ⟨h1,h2⟩:=zdA l y fun z hz=>h z (List.mem_cons_of_mem _ hz)
    have e:Lib.join (x::y::l) [c]=x++c::Lib.join (y::l) [c]:=by
      rw [Lib.join_cons,Lib.join_cons]
      simp [Lib.joinTail]
    rw [e]
    have hx:=h x (List.mem_cons_self ..)
    refine ⟨by rw [zCI hx,h1,List.length_cons]; omega,?_⟩
    rw [List.length_cons,zEG hx,h2]
    rfl
theorem zcy {c:UInt8}:∀ (k:Nat) (s:ByteArray) (i:Nat) (p:ByteArray),(Lib.splitB (one c) 0 k s)[i]?=some p->p.size+i<=s.size
  |0,s,i,p,h => by
    rw [Lib.splitB_zero] at h
    cases i with
    |zero => simp at h; subst h; omega
    |succ i => simp at h
  |k+1,s,i,p,h => by
    rcases Lib.indexB_cases s (one c) with hm|⟨j,hj,hle⟩
    · rw [Lib.splitB_miss (one c) 0 _ s hm] at h
      cases i with
      |zero => simp at h; subst h; omega
      |succ i => simp at h
    · have hd:(one c).size=1:=rfl
      rw [Lib.splitB_hit (one c) 0 k s j hj] at h
      cases i with
      |zero =>
        simp only [List.getElem?_cons_zero,Option.some.injEq] at h
        subst h
        rw [ByteArray.size_extract]; omega
      |succ i =>
        simp only [List.getElem?_cons_succ] at h
        have:=zcy k _ i p h
        rw [ByteArray.size_extract] at this
        omega
theorem zhF (s:List UInt8) (c:UInt8):(Lib.cut s [c]).2.1.length<=s.length:=by
  unfold Lib.cut
  split
  · simp only [List.length_drop]; omega
  · simp
def isErr (v:Value):Prop:=v=.nilIface\/∃ te pe,v=.iface te pe
structure GB (w:World):Prop where
  pow : Lib.TabIs Tryz.prog w "internal/strconv.uint64pow10" .u64 Lib.pow10Tab
  maxLen:∃ m,cell w (some (⟨5,0,none⟩:Addr)) 0=some (.int .i64 m)
  eSyn:∃ v,cell w (some (⟨2,0,none⟩:Addr)) 0=some v/\isErr v
  eRan:∃ v,cell w (some (⟨3,0,none⟩:Addr)) 0=some v/\isErr v
theorem zER {P:Program} {w w':World} {name:String} {k:IntKind} {zs:List Int} (h:Lib.TabIs P w name k zs) (e:Ext w w'):Lib.TabIs P w' name k zs:=by
  unfold Lib.TabIs World.var? at *
  cases hg:P.globalNamed name with
  |none => simp [hg] at h
  |some g =>
    simp only [hg,Option.bind_some] at h ⊢
    have hlt:g<w.heap.size:=by
      rcases Nat.lt_or_ge g w.heap.size with h'|h'
      · exact h'
      · rw [Array.getElem?_eq_none h'] at h; simp at h
    rw [e.block g hlt]; exact h
theorem GB.ext {w w':World} (g:GB w) (e:Ext w w'):GB w' :=
  ⟨zER g.pow e,by obtain ⟨m,h⟩:=g.maxLen; exact ⟨m,zaD e h⟩,by obtain ⟨v,h,k⟩:=g.eSyn; exact ⟨v,zaD e h,k⟩,by obtain ⟨v,h,k⟩:=g.eRan; exact ⟨v,zaD e h,k⟩⟩
theorem zw6 {w:World} {b:Nat} {v:Value} (h:cell w (some (⟨b,0,none⟩:Addr)) 0=some v):w.cell? ⟨b,0,none⟩=some v:=by simpa [cell,add_zero] using h
theorem zmu {w:World} {k:Nat} {os:Array Obj}:Ext w (Go.Sort.grow (w.drewN k) os) :=
  ⟨rfl,rfl,rfl,by simp [Go.Sort.grow],fun b hb=>Go.Sort.heap_grow_old (w.drewN k) os hb⟩
theorem zGg {w:World} {n:Nat}:Ext w (w.drewN n):=⟨rfl,rfl,rfl,Nat.le_refl _,fun _ _=>rfl⟩
theorem zoX (n:Int) (h:-9223372036854775808<=n/\n<=9223372036854775807) (w:World) (g:GB w):FnP Tryz.prog zbC #[.int .i64 n,.int .i64 10] w fun v w'=>Ext w w'/\v=.string (ofL (Lib.itoa n)) :=
  ⟨fun args w=>Tryz.call90 args w,(Tryz.strconv_FormatInt_10 n h.1 h.2 w g.pow).mono fun e w' ⟨he,k,os,hw⟩=>⟨_,he,by rw [hw]; exact zmu,rfl⟩⟩
theorem zjB (s:ByteArray) (hs:s.size<=281474976710656) (w:World) (g:GB w):FnP Tryz.prog zbT #[.string s,.int .i64 10,.int .i64 64] w fun v w'=>Ext w w'/\∃ (n:Int) (ev:Value),v=.tuple #[.int .i64 n,ev] /\
    ((ev=.nilIface/\Lib.parseIntB 64 s.data.toList=.ok n)\/((∃ a b,ev=.iface a b)/\∀ m,Lib.parseIntB 64 s.data.toList≠.ok m)):=by
  have en:znD Tryz.prog zbT:=fun args w=>Tryz.call94 args w
  cases hp:Lib.parseIntB 64 s.data.toList with
  |ok v =>
    refine ⟨en,(Tryz.strconv_ParseInt_10_at64_ok s (by omega) v hp w).mono fun e w' ⟨he,hw⟩=>⟨_,he,?_,v,.nilIface,rfl,.inl ⟨rfl,rfl⟩⟩⟩
    rcases hw with rfl|⟨t,rfl⟩
    · exact Ext.refl _
    · exact Lib.bytesWorld_below w 5 t
  |range =>
    obtain ⟨ev,h1,h2⟩:=g.eRan
    exact ⟨en,(Tryz.strconv_ParseInt_10_at64_range s hs hp ev w (zw6 h1) h2).mono fun e w' ⟨N,he,_,_,hb⟩=>⟨_,he,hb,_,_,rfl,.inr ⟨⟨_,_,rfl⟩,fun m h=>by cases h⟩⟩⟩
  |_ =>
    obtain ⟨ev,h1,h2⟩:=g.eSyn
    exact ⟨en,(Tryz.strconv_ParseInt_10_at64_syntax s hs hp ev w (zw6 h1) h2).mono fun e w' ⟨N,he,_,_,hb⟩=>⟨_,he,hb,_,_,rfl,.inr ⟨⟨_,_,rfl⟩,fun m h=>by cases h⟩⟩⟩
theorem zvN {l:List UInt8} {n:Int} (h:Lib.parseIntB 64 l=.ok n) (hn:0<n):n<=9223372036854775807:=by
  unfold Lib.parseIntB at h
  split at h
  · cases h
  · simp only at h
    split at h
    · cases h
    · cases h
    · rename_i u _
      split at h
      · cases h
      · rename_i h1
        split at h
        · cases h
        · injection h with h
          split at h
          · omega
          · rename_i h2
            have e:(2:Nat)^(64-1)=9223372036854775808:=by decide
            rw [e] at h1
            omega
theorem zky {P:Program} (d:Nat) {t:TypeId} {m:Array (String×TypeId)} (ht:P.underlying t=some (.interface m)) (w:World):(Op.equalIn (d+1) t .nilIface .nilIface).run P w=.ok true w:=by
  simp only [Op.equalIn,Sem.run_bind,run_underlying ht,Result.andThen_ok,Sem.run_pure]
theorem zkx {P:Program} (d:Nat) {t:TypeId} {m:Array (String×TypeId)} (ht:P.underlying t=some (.interface m)) (a:TypeId) (b:Value) (w:World):(Op.equalIn (d+1) t (.iface a b) .nilIface).run P w=.ok false w:=by
  simp only [Op.equalIn,Sem.run_bind,run_underlying ht,Result.andThen_ok,Sem.run_pure]
theorem ne_nil {P:Program} {t:TypeId} {m:Array (String×TypeId)} (ht:P.underlying t=some (.interface m)) {v:Value} (hv:isErr v) {cx:Bool} {w:World} {K:Value->World->Prop} (hk:∀ b:Bool,(b=false↔v=.nilIface)->K (.bool b) w):Run P (.eq .neq t cx true v .nilIface) w K:=by
  have hb:∀ x:Value,∀ r:Bool,(Op.equal t x .nilIface).run P w=.ok r w->(eqGuard .neq t (opd cx) (opd true) x .nilIface).run P w=.ok () w->binOp .neq t x .nilIface=(do pure (.bool (!(<- Op.equal t x .nilIface))))->(MC.sem (.eq .neq t cx true x .nilIface)).run P w=.ok (.bool (!r)) w:=fun x r h1 h2 h3=>by
    show (do eqGuard .neq t (opd cx) (opd true) x .nilIface; binOp .neq t x .nilIface:Sem Value).run P w=_
    rw [Sem.run_bind,h2,Result.andThen_ok,h3,Sem.run_bind,h1,Result.andThen_ok,Sem.run_pure]
  rcases hv with rfl|⟨a,b,rfl⟩
  · exact ⟨_,w,hb _ true (zky 9999 ht w) (by cases cx<;>rfl) rfl,hk false (by simp)⟩
  · exact ⟨_,w,hb _ false (zkx 9999 ht a b w) (by cases cx<;>rfl) rfl,hk true (by simp)⟩
def zuX (P:Program) (t:TypeId):Bool:=match P.underlying t with|some (.interface _)=>true|_=>false
theorem zi9 {P:Program} {t:TypeId} (ht:zuX P t=true) {v:Value} (hv:isErr v) {cx:Bool} {w:World} {K:Value->World->Prop} (hk:∀ b:Bool,(b=false↔v=.nilIface)->K (.bool b) w):Run P (.eq .neq t cx true v .nilIface) w K:=by
  unfold zuX at ht
  split at ht
  · rename_i m h; exact ne_nil h hv hk
  · cases ht
theorem zeX (c:UInt8) (s:ByteArray) (hs:s.size<4294967281) (w:World) (g:GB w):FnP Tryz.prog zbk #[.string s,.string (one c)] w fun v w'=>Ext w w'/\v=.slice (some ⟨w.heap.size,0,none⟩) (Lib.countB s (one c)+1) (Lib.countB s (one c)+1) /\
    zav w' (some ⟨w.heap.size,0,none⟩) ((Lib.splitB (one c) 0 (Lib.countB s (one c)) s).map Value.string)/\w.heap.size<w'.heap.size:=by
  obtain ⟨m,hm⟩:=g.maxLen
  refine ⟨fun args w=>Tryz.call92 args w,(Tryz.strings_Split s (one c) m w hs (zw6 hm) (Nat.le_refl 1)).mono fun e w' ⟨he,hw⟩=>⟨_,he,?_,rfl,fun i p hp=>?_,?_⟩⟩
  · rw [hw]; exact Below.alloc (Below.refl _ _) (Nat.le_refl _) _
  · rw [hw]
    show World.cell? _ _=_
    have:(Addr.add ⟨w.heap.size,0,none⟩ i)=⟨w.heap.size,i,none⟩:=by simp [Addr.add]; intro h; exact h.symm
    rw [this]
    rw [World.cell?_alloc_mark]
    simpa using hp
  · rw [hw]; show w.heap.size<(w.heap.push _).size; rw [Array.size_push]; omega
theorem zwN (c:UInt8) (s:ByteArray) (hs:s.size<4294967281) (w:World) (g:GB w):FnP Tryz.prog zdO #[.string s,.string (one c)] w fun v w'=>Ext w w'/\v=.tuple #[.string (ofL (Lib.cut s.data.toList [c]).1),.string (ofL (Lib.cut s.data.toList [c]).2.1),.bool (Lib.cut s.data.toList [c]).2.2]:=by
  obtain ⟨m,hm⟩:=g.maxLen
  exact ⟨fun args w=>Tryz.call149 args w,(Tryz.strings_Cut s (one c) m w hs (zw6 hm)).mono fun e w' ⟨he,n,hw⟩=>⟨_,he,by rw [hw]; exact zGg,rfl⟩⟩
theorem zBW (L:List (List UInt8)) (c:UInt8) (q:Option Addr) (m d B:Nat) (e:TypeId) (w:World) (o:Own B w e 1 q m d (L.map fun l=>Value.string (ofL l))) (hne:L≠[]) (hlen:(Lib.join L [c]).length<=140737488355327) :
    FnP Tryz.prog zbf #[.slice q m d,.string (one c)] w fun v w'=>Ext w w'/\v=.string (ofL (Lib.join L [c])):=by
  have hm:=o.leni
  have hmd:=o.le
  have hcl:=o.cells
  have hlt:=o.lt
  obtain ⟨b,rfl⟩:∃ b,q=some ⟨b,0,none⟩:=by
    rcases o.2 with ⟨h,_⟩|⟨g,cap,cur,hv,_⟩
    · have:L=[]:=by
        simp at h
        have:L.length=0:=by omega
        exact List.eq_nil_of_length_eq_zero this
      exact absurd this hne
    · injection hv with h1
      exact ⟨g,h1⟩
  have hl:L.length<=140737488355328:=by
    have key:∀ (L:List (List UInt8)) (x:List UInt8),L.length<=(Lib.join (x::L) [c]).length:=by
      intro L x
      rw [Lib.join_cons,List.length_append,Lib.joinTail_length,show ([c]:List UInt8).length=1 from rfl]; omega
    cases L with
    |nil => exact absurd rfl hne
    |cons x L =>
      have:=key L x
      rw [List.length_cons]; omega
  have e1:(L.map ofL).map (·.data.toList)=L:=by
    rw [List.map_map]
    simp [Function.comp_def,ofL]
  have key:=Tryz.strings_Join b 0 d (L.map ofL) (one c) w (fun j x hx=>by
    rw [List.getElem?_map,Option.map_eq_some_iff] at hx
    obtain ⟨l,hl,rfl⟩:=hx
    have:=hcl j (.string (ofL l)) (by rw [List.getElem?_map,hl]; rfl)
    simp only [cell,Option.bind_some] at this
    have ha:(Addr.add ⟨b,0,none⟩ j)=⟨b,0+j,none⟩:=by simp [Addr.add]; intro h; exact h.symm
    rwa [ha] at this) (hlt _ rfl).2 (by simpa using hl) (by rw [List.length_map,hm]; exact hmd.1) (by rw [e1]; show (Lib.join L [c]).length<=_; omega)
  rw [List.length_map,hm,e1] at key
  exact ⟨fun args w=>Tryz.call173 args w,key.mono fun e w' ⟨he,hw⟩=>⟨_,he,hw,rfl⟩⟩
structure Nd where
  c:Int
  m:Int
  g:Int
deriving DecidableEq,Inhabited
abbrev zwI (x:Nd):List Value:=[.int .i64 x.c,.int .i64 x.m,.int .i64 x.g]
abbrev nv (x:Nd):Value:=.agg #[.int .i64 x.c,.int .i64 x.m,.int .i64 x.g]
def okN (x:Nd):Prop:=(0<=x.c/\x.c<=1099511627776)/\(0<=x.m/\x.m<=1099511627776)/\(0<=x.g/\x.g<=1099511627776)
instance (x:Nd):Decidable (okN x):=by unfold okN; infer_instance
def zj9 (a b:Nd):Prop:=a.c<=b.c/\a.m<=b.m/\a.g<=b.g
instance (a b:Nd):Decidable (zj9 a b):=by unfold zj9; infer_instance
def zwG (a b:Nd):Nd:=⟨a.c+b.c,a.m+b.m,a.g+b.g⟩
def ziu (a b:Nd):Nd:=⟨a.c-b.c,a.m-b.m,a.g-b.g⟩
def za7:Nd:=⟨0,0,0⟩
def zzt (x:Nd):Int:=if okN x then 0 else 4
theorem zbc {x:Nd}:zzt x=0↔okN x:=by unfold zzt; split<;>simp_all
theorem zmA {x:Nd} (h:¬ okN x):zzt x=4:=if_neg h
theorem zKG {a b:Nd}:a=b↔[a.c,a.m,a.g]=[b.c,b.m,b.g]:=by cases a; cases b; simp
def zce (x:Nd) (i:Nat):Int:=match i with|0=>x.c|1=>x.m|_=>x.g
theorem zpK {x:Nd}:okN x↔∀ i,i<3->0<=zce x i/\zce x i<=1099511627776:=by
  constructor
  · rintro ⟨h1,h2,h3⟩ i hi
    match i,hi with
    |0,_ => exact h1
    |1,_ => exact h2
    |2,_ => exact h3
  · intro h
    exact ⟨h 0 (by omega),h 1 (by omega),h 2 (by omega)⟩
theorem eqN_k {a b:Nd} {w:World} {K:Value->World->Prop} (hk:K (.bool (decide (a=b))) w):Run Tryz.prog (.eq .eql zio false false (nv a) (nv b)) w K :=
  zK1 (n:=3) (k:=.i64) (by kernel_rfl) (by kernel_rfl) (by kernel_rfl) (by kernel_rfl) [a.c,a.m,a.g] [b.c,b.m,b.g] rfl rfl (by
    have:decide (a=b)=decide ([a.c,a.m,a.g]=[b.c,b.m,b.g]):=decide_eq_decide.2 zKG
    rwa [this] at hk)
def pn (i:Nat):ByteArray:=match i with|0=>⟨#[99,112,117]⟩|1=>⟨#[109,101,109]⟩|_=>⟨#[103,112,117]⟩
abbrev zvQ (a:Option Addr):List Value:=[.string (pn 0),.pointer (pAdd a 0),.string (pn 1),.pointer (pAdd a 1),.string (pn 2),.pointer (pAdd a 2)]
theorem ztv {w:World} {q a:Option Addr} (h:zav w q (zvQ a)) {k:Int} (h0:0<=k) (h1:k<3):Go.Sx.cell w (pIdx q k 2) 0=some (.string (pn k.toNat))/\Go.Sx.cell w (pIdx q k 2) 1=some (.pointer (pAdd a k.toNat)):=by
  have hk:k=0\/k=1\/k=2:=by omega
  rcases hk with rfl|rfl|rfl
  · exact ⟨by rw [zae]; exact h 0 _ rfl,by rw [zae]; exact h 1 _ rfl⟩
  · exact ⟨by rw [zae]; exact h 2 _ rfl,by rw [zae]; exact h 3 _ rfl⟩
  · exact ⟨by rw [zae]; exact h 4 _ rfl,by rw [zae]; exact h 5 _ rfl⟩
theorem ztw (a:Option Addr) (ha:a≠none) (w:World):FnP Tryz.prog zeF #[.pointer a] w fun v w'=>Ext w w'/\∃ q,v=.slice q 3 3/\zav w' q (zvQ a)/\∀ x,q=some x->w.heap.size<=x.block:=by
  refine ztp a w _ ⟨ha,ha,ha,ha,ha,ha,fun w0 h0=>?_⟩
  refine zcE zmz [_,_,_] rfl rfl (by intro v hv; simp at hv; rcases hv with rfl|rfl|rfl<;>rfl) (by omega) (by omega) fun w1 o1 e1=>⟨e1,_,_,_,rfl,fun w5 h5=>⟨(h0.trans e1).trans h5,_,rfl,?_,fun x hx=>?_⟩⟩
  · have o5:=((o1 0 (Nat.zero_le _)).ext h5).cells
    exact o5
  · obtain rfl:=Option.some.inj hx
    exact h0.size
abbrev zBY (w:World) (p:Option Addr) (x:Nd):Prop:=zav w p (zwI x)
theorem nd_at {w:World} {p:Option Addr} {x:Nd} (h:zBY w p x) {i:Nat} (hi:i<3):Go.Sx.cell w (pAdd p i) 0=some (.int .i64 (zce x i)):=by
  rw [zam,Nat.add_zero]
  match i,hi with
  |0,_ => exact h 0 _ rfl
  |1,_ => exact h 1 _ rfl
  |2,_ => exact h 2 _ rfl
theorem zeA (x:Nd) (w:World):FnP Tryz.prog zbi #[nv x] w fun v w'=>Ext w w'/\v=.int .i64 (zzt x):=by
  refine zto x.c x.m x.g w _ fun w0 h0=>?_
  refine zbG (by simp [Value.oneCell']) fun w1 o1 e1=>fun w2 h2=>?_
  have c1:zBY w1 (some ⟨w0.heap.size,0,none⟩) x:=(o1 0 (Nat.zero_le _)).cells
  have n1:(some (⟨w0.heap.size,0,none⟩:Addr))≠none:=by simp
  generalize (some (⟨w0.heap.size,0,none⟩:Addr))=p1 at c1 n1 ⊢
  refine (ztw p1 n1 w2).mono fun v w3 ⟨e3,q,hv,hq,_⟩=>⟨e3,q,3,3,hv,?_⟩
  have c3:=(c1.ext h2).ext e3
  have x3:=((h0.trans e1).trans h2).trans e3
  refine ⟨fun k w'=>w'=w3/\0<=k/\k<=3/\∀ i:Nat,(i:Int)<k->0<=zce x i/\zce x i<=1099511627776,fun k _=>(3-k).toNat,⟨rfl,by omega,by omega,fun i hi=>by omega⟩,?_⟩
  rintro k w3 ⟨rfl,hk0,hk1,hall⟩
  refine ⟨fun hlt=>?_,fun hge w10 h10=>⟨x3.trans h10,?_⟩⟩
  · obtain ⟨d1,d2⟩:=ztv hq hk0 hlt
    have ci:=nd_at c3 (i:=k.toNat) (by omega)
    have hne:pAdd p1 k.toNat≠none:=fun h=>n1 (zdj.1 h)
    have bad:¬ (0<=zce x k.toNat/\zce x k.toNat<=1099511627776)->zzt x=4:=fun h=>zmA fun ho=>h (zpK.1 ho _ (by omega))
    refine ⟨fun hq=>zai d1 (zah.2 hq),hk0,hlt,zai d1,_,d1,_,d2,fun b12 _=>⟨hne,_,ci,fun _=>hne,fun hn w14 h14=>⟨x3.trans h14,by rw [bad (by omega)]⟩,fun hp=>⟨_,ci,fun hb w15 h15=>⟨x3.trans h15,by rw [bad (by omega)]⟩,fun hl=>⟨i64 (by omega),⟨rfl,by omega,by omega,fun i hi=>?_⟩,by simp only []; omega⟩⟩⟩⟩
    by_cases hik:(i:Int)<k
    · exact hall i hik
    · obtain rfl:i=k.toNat:=by omega
      omega
  · rw [zbc.2 (zpK.2 fun i hi=>hall i (by omega))]
def rng (x:Nd):Prop:=∀ i,i<3->-9223372036854775808<=zce x i/\zce x i<=9223372036854775807
theorem okN.rng {x:Nd} (h:okN x):rng x:=fun i hi=>by have:=zpK.1 h i hi; omega
def idx (x:Nd) (k:Nat):List Nat:=(List.range k).filter fun i=>decide (zce x i≠0)
def zgF (x:Nd) (i:Nat):List UInt8:=(pn i).data.toList++61::Lib.itoa (zce x i)
def pcs (x:Nd) (k:Nat):List (List UInt8):=(idx x k).map (zgF x)
def zbq (x:Nd):List UInt8:=if pcs x 3=[] then [45] else Lib.join (pcs x 3) [44]
theorem zGN (x:Nd) (k:Nat):idx x (k+1)=idx x k++if zce x k≠0 then [k] else []:=by
  unfold idx
  rw [List.range_succ,List.filter_append]
  congr 1
  by_cases h:zce x k=0<;>simp [h]
theorem ztx (x:Nd) (k:Nat):pcs x (k+1)=pcs x k++if zce x k≠0 then [zgF x k] else []:=by
  unfold pcs
  rw [zGN,List.map_append]
  congr 1
  split<;>rfl
theorem zpu {x:Nd} {k i:Nat} (h:i∈idx x k):i<k/\zce x i≠0:=by
  unfold idx at h
  rw [List.mem_filter,List.mem_range] at h
  exact ⟨h.1,by simpa using h.2⟩
theorem zzY (i:Nat):(pn i).size=3:=by
  match i with
  |0 => rfl
  |1 => rfl
  |n+2 => rfl
theorem zD9 {x:Nd} (hx:rng x) {i:Nat} (hi:i<3):(zgF x i).length<=25:=by
  unfold zgF
  have:=Lib.itoa_length_le (zce x i) (hx i hi).1 (hx i hi).2
  have h3:(pn i).data.toList.length=3:=zzY i
  rw [List.length_append,List.length_cons,h3]; omega
theorem zhM {c:UInt8} {m:Nat}:∀ (L:List (List UInt8)),(∀ y∈L,y.length<=m)->(Lib.join L [c]).length<=L.length*(m+1)
  |[],_ => by simp [Lib.join_nil]
  |[x],h => by rw [Lib.join_one]; have:=h x (List.mem_cons_self ..); simp; omega
  |x::y::L,h => by
    have ih:=zhM (c:=c) (y::L) fun z hz=>h z (List.mem_cons_of_mem _ hz)
    have hx:=h x (List.mem_cons_self ..)
    have e:Lib.join (x::y::L) [c]=x++c::Lib.join (y::L) [c]:=by
      rw [Lib.join_cons,Lib.join_cons]
      simp [Lib.joinTail]
    rw [e,List.length_append,List.length_cons,List.length_cons,Nat.add_mul]
    omega
theorem zDm (x:Nd) (k:Nat):(idx x k).length<=k:=by
  unfold idx
  have:=List.length_filter_le (fun i=>decide (zce x i≠0)) (List.range k)
  rwa [List.length_range] at this
theorem zzE {x:Nd} (hx:rng x):(Lib.join (pcs x 3) [44]).length<=78:=by
  have h1:=zhM (c:=44) (m:=25) (pcs x 3) fun y hy=>by
    obtain ⟨i,hi,rfl⟩:=List.mem_map.1 hy
    exact zD9 hx (zpu hi).1
  have h2:(pcs x 3).length<=3:=by unfold pcs; rw [List.length_map]; exact zDm x 3
  omega
theorem zxJ (x:Nd) (hx:rng x) (w:World) (g:GB w):FnP Tryz.prog zeh #[nv x] w fun v w'=>Ext w w'/\v=.string (ofL (zbq x)):=by
  refine zvF x.c x.m x.g w _ fun w0 h0=>?_
  refine zbG (by simp [Value.oneCell']) fun w1 o1 e1=>fun w2 h2=>?_
  have c1:zBY w1 (some ⟨w0.heap.size,0,none⟩) x:=(o1 0 (Nat.zero_le _)).cells
  have n1:(some (⟨w0.heap.size,0,none⟩:Addr))≠none:=by simp
  have l1:∀ a,(some (⟨w0.heap.size,0,none⟩:Addr))=some a->a.block<w1.heap.size:=c1.lt (by simp)
  generalize (some (⟨w0.heap.size,0,none⟩:Addr))=p1 at c1 n1 l1 ⊢
  refine (ztw p1 n1 w2).mono fun v w3 ⟨e3,q,hv,hq,hqb⟩=>⟨e3,q,3,3,hv,?_⟩
  have x3:=((h0.trans e1).trans h2).trans e3
  refine ⟨fun out outl outc k w'=>Ext w w'/\0<=k/\k<=3/\zBY w' p1 x/\zav w' q (zvQ p1)/\Own w.heap.size w' zay 1 out outl outc ((pcs x k.toNat).map fun l=>Value.string (ofL l))/\zbK p1 out/\zbK q out/\(out=none↔pcs x k.toNat=[]),fun _ _ _ k _=>(3-k).toNat,
    ⟨x3,by omega,by omega,(c1.ext h2).ext e3,hq,Own.nil,zbK.nil,zbK.nil,by simp [pcs,idx]⟩,?_⟩
  rintro out outl outc k w10 ⟨x10,hk0,hk3,c10,q10,o10,a1,a2,hout⟩
  refine ⟨fun hlt=>?_,fun hge=>?_⟩
  · obtain ⟨d1,d2⟩:=ztv q10 hk0 hlt
    have ci:=nd_at c10 (i:=k.toNat) (by omega)
    have hne:pAdd p1 k.toNat≠none:=fun h=>n1 (zdj.1 h)
    have hr:=hx k.toNat (by omega)
    have hil:=Lib.itoa_length_le (zce x k.toNat) hr.1 hr.2
    have hlen:(pcs x k.toNat).length<=3:=by unfold pcs; rw [List.length_map]; have:=zDm x k.toNat; omega
    have hol:=o10.leni
    have hps:(pn k.toNat).size=3:=zzY _
    refine ⟨fun hq=>zai d1 (zah.2 hq),hk0,hlt,zai d1,_,d1,_,d2,fun b13 hb13=>⟨hne,_,ci,fun hnz=>?_,fun hz=>?_⟩⟩
    · refine ⟨by unfold zdl; rw [hps]; decide,hne,_,ci,fun w16 h16=>?_⟩
      refine (zoX _ hr w16 ((g.ext x10).ext h16)).mono fun v w17 ⟨e17,hv⟩=>⟨e17,_,hv,?_,?_⟩
      · unfold zdl
        rw [ByteArray.size_append,hps,zat]
        show 3+1+_<=_
        omega
      · have hpc:(pn k.toNat++(⟨#[61]⟩:ByteArray))++ofL (Lib.itoa (zce x k.toNat))=ofL (zgF x k.toNat):=by
          rw [<- zb9 ((pn k.toNat++(⟨#[61]⟩:ByteArray))++ofL (Lib.itoa (zce x k.toNat))),zgY,zgY]
          unfold zgF
          rw [zcm]
          simp
        rw [hpc]
        refine znW zbX (by omega) o10 x10.size (fun b hb y hy=>by simp at hb; subst hb; have:=(o10.lt y hy).2; omega) rfl (by intro u hu; simp [Value.cells] at hu; subst hu; rfl) (by omega) (by omega) (by omega) fun p' c' w' o' g' np _=>⟨i64 (by omega),⟨g'.ext x10 o10,by omega,by omega,c10.grew a1 g',q10.grew a2 g',?_,a1.grewC (c10.lt (by simp)) g',a2.grewC (q10.lt (by simp)) g',?_⟩,by simp only []; omega⟩
        · rw [show (k+1).toNat=k.toNat+1 by omega,ztx,if_pos hnz,List.map_append]
          simpa [Value.cells] using o'
        · rw [show (k+1).toNat=k.toNat+1 by omega,ztx,if_pos hnz]
          simp [np]
    · have hp:pcs x (k+1).toNat=pcs x k.toNat:=by
        rw [show (k+1).toNat=k.toNat+1 by omega,ztx,if_neg (by simpa using hz),List.append_nil]
      exact ⟨i64 (by omega),⟨x10,by omega,by omega,c10,q10,by rw [hp]; exact o10,a1,a2,by rw [hp]; exact hout⟩,by simp only []; omega⟩
  · obtain rfl:k=3:=by omega
    have hout:out=none↔pcs x 3=[]:=hout
    have o10:Own w.heap.size w10 zay 1 out outl outc ((pcs x 3).map fun l=>Value.string (ofL l)):=o10
    refine ⟨fun hn w11 h11=>⟨x10.trans h11,?_⟩,fun hn w11 h11=>?_⟩
    · unfold zbq; rw [if_pos (hout.1 hn)]; rfl
    · have hpn:pcs x 3≠[]:=fun h=>hn (hout.2 h)
      refine (zBW (pcs x 3) 44 out outl outc w.heap.size zay w11 (o10.ext h11) hpn (by have:=zzE hx; omega)).mono fun v w12 ⟨e12,hv⟩=>⟨e12,_,hv,fun w14 h14=>⟨x10.trans h14,?_⟩⟩
      unfold zbq; rw [if_neg hpn]
theorem zDL (x:Nd) (w:World) (g:GB w):FnP Tryz.prog zhv #[nv x] w fun v w'=>Ext w w'/\∃ (t:ByteArray) (e:Int),v=.tuple #[.string t,.int .i64 e]/\(e=0↔okN x)/\(e≠0->t=⟨#[]⟩)/\(e=0->t=ofL (zbq x)):=by
  refine zvD x.c x.m x.g w _ fun b0 _ w1 h1=>(zeA x w1).mono fun v w2 ⟨e2,hv⟩=>⟨e2,_,hv,fun hne w4 h4=>⟨h4,_,_,rfl,zbc,fun _=>rfl,fun h=>absurd h hne⟩,fun hz w4 h4=>?_⟩
  have ok:=zbc.1 hz
  exact (zxJ x ok.rng w4 (g.ext h4)).mono fun v w5 ⟨e5,hv⟩=>⟨e5,_,hv,fun w7 h7=>⟨h7,_,_,rfl,⟨fun _=>ok,fun _=>rfl⟩,fun h=>absurd rfl h,fun _=>rfl⟩⟩
theorem zhC (s:ByteArray):s.data.toList.length=s.size:=by simp
theorem zeL {c:UInt8}:∀ (k:Nat) (s:ByteArray),Lib.countB s (one c)=k->(Lib.splitB (one c) 0 k s).length=k+1
  |0,s,_ => by rw [Lib.splitB_zero]; rfl
  |k+1,s,h => by
    rcases Lib.indexB_cases s (one c) with hm|⟨j,hj,hle⟩
    · rw [Lib.countB_miss _ _ hm] at h; omega
    · rw [Lib.countB_hit s (one c) j (Nat.le_refl 1) hj] at h
      rw [Lib.splitB_hit (one c) 0 k s j hj,List.length_cons,zeL k _ (by omega)]
def upN (cur:Nd) (name:ByteArray) (v:Int) (k:Nat):Nd:=⟨if 0<k/\pn 0=name then v else cur.c,if 1<k/\pn 1=name then v else cur.m,if 2<k/\pn 2=name then v else cur.g⟩
theorem zAu (cur:Nd) (name:ByteArray) (v:Int):upN cur name v 0=cur:=by cases cur; simp [upN]
theorem zE1 {cur:Nd} {name:ByteArray} {v:Int} {k:Nat} (hk:k<3) (h:pn k=name):(zwI (upN cur name v k)).set k (.int .i64 v)=zwI (upN cur name v (k+1)):=by
  match k,hk with
  |0,_ => simp [zwI,upN,h]
  |1,_ => simp [zwI,upN,h]
  |2,_ => simp [zwI,upN,h]
theorem zAt {cur:Nd} {name:ByteArray} {v:Int} {k:Nat} (hk:k<3) (h:pn k≠name):upN cur name v (k+1)=upN cur name v k:=by
  match k,hk with
  |0,_ => simp [upN,h]
  |1,_ => simp [upN,h]
  |2,_ => simp [upN,h]
theorem zE0 {cur:Nd} {name:ByteArray} {v:Int} {i:Nat} (hi:i<3):zce (upN cur name v 3) i=if pn i=name then v else zce cur i:=by
  match i,hi with
  |0,_ => simp [upN,zce]
  |1,_ => simp [upN,zce]
  |2,_ => simp [upN,zce]
theorem pn_inj:∀ {i j:Nat},i<3->j<3->pn i=pn j->i=j:=by
  intro i j hi hj h
  match i,j,hi,hj with
  |0,0,_,_ => rfl
  |1,1,_,_ => rfl
  |2,2,_,_ => rfl
  |0,1,_,_ => exact absurd h (by decide)
  |0,2,_,_ => exact absurd h (by decide)
  |1,0,_,_ => exact absurd h (by decide)
  |1,2,_,_ => exact absurd h (by decide)
  |2,0,_,_ => exact absurd h (by decide)
  |2,1,_,_ => exact absurd h (by decide)
theorem zHh:∀ {i:Nat},i<3->(61:UInt8)∉(pn i).data.toList/\(44:UInt8)∉(pn i).data.toList:=by
  intro i hi
  match i,hi with
  |0,_ => decide
  |1,_ => decide
  |2,_ => decide
theorem zHg {x:Nd} (hx:okN x) {i:Nat} (hi:i<3):(44:UInt8)∉zgF x i:=fun hm=>by
  have h0:=(zpK.1 hx i hi).1
  unfold zgF at hm
  rcases List.mem_append.1 hm with h|h
  · exact (zHh hi).2 h
  · rcases List.mem_cons.1 h with h|h
    · exact absurd h (by decide)
    · exact zi6 h0 (by decide) h
theorem zBv {x:Nd} (hx:okN x) (hne:zbq x≠[45]):Lib.countB (ofL (zbq x)) (one 44)+1=(idx x 3).length/\Lib.splitB (one 44) 0 (Lib.countB (ofL (zbq x)) (one 44)) (ofL (zbq x))=(pcs x 3).map ofL:=by
  have hp:pcs x 3≠[]:=fun h=>hne (by unfold zbq; rw [if_pos h])
  have ht:zbq x=Lib.join (pcs x 3) [44]:=by unfold zbq; rw [if_neg hp]
  rw [ht]
  cases hl:pcs x 3 with
  |nil => exact absurd hl hp
  |cons a l =>
    obtain ⟨h1,h2⟩:=zdA (c:=44) l a fun y hy=>by
      rw [<- hl] at hy
      obtain ⟨i,hi,rfl⟩:=List.mem_map.1 hy
      exact zHg hx (zpu hi).1
    have hlen:(idx x 3).length=l.length+1:=by
      have:=congrArg List.length hl
      unfold pcs at this
      rw [List.length_map] at this
      simpa using this
    rw [h1,h2]
    exact ⟨by omega,rfl⟩
def good (x cur:Nd) (k:Nat):Prop:=∀ i,i<3->zce cur i=if i∈(idx x 3).take k then zce x i else 0
theorem zou {x cur:Nd} (h:good x cur (idx x 3).length):cur=x:=by
  have key:∀ i,i<3->zce cur i=zce x i:=fun i hi=>by
    rw [h i hi,List.take_length]
    split
    · rfl
    · rename_i hn
      by_cases h0:zce x i=0
      · exact h0.symm
      · exact absurd (List.mem_filter.2 ⟨List.mem_range.2 hi,by simpa using h0⟩) hn
  have a:=key 0 (by omega)
  have b:=key 1 (by omega)
  have c:=key 2 (by omega)
  cases cur; cases x
  simp only [zce] at a b c
  simp [a,b,c]
theorem zuN {x cur:Nd} {k i:Nat} (h:good x cur k) (hi:(idx x 3)[k]?=some i):good x (upN cur (pn i) (zce x i) 3) (k+1):=by
  have hm:=zpu (List.mem_of_getElem? hi)
  intro j hj
  rw [zE0 hj,List.take_add_one,hi]
  simp only [Option.toList_some,List.mem_append,List.mem_singleton]
  by_cases e:j=i
  · subst e; simp
  · rw [if_neg (fun hp=>e (pn_inj hj hm.1 hp)),h j hj]
    simp [e]
theorem zjH {x:Nd}:good x za7 0:=fun i hi=>by
  match i,hi with
  |0,_ => simp [zce,za7]
  |1,_ => simp [zce,za7]
  |2,_ => simp [zce,za7]
abbrev RQ (w:World) (s:ByteArray) (v:Value) (w':World):Prop:=Ext w w'/\∃ (a:Nd) (e:Int),v=.tuple #[nv a,.int .i64 e]/\(e≠0->a=za7)/\(e=0->okN a/\s=ofL (zbq a))/\(∀ x,okN x->s=ofL (zbq x)->e=0/\a=x)
def rtail (s:ByteArray) (p2:Option Addr) (b0:Nat) (w10:World) (Q:Value->World->Prop):Prop :=
       p2≠none /\
       ∃ t11:Int,cell w10 p2 0=some (.int .i64 t11) /\
       ∃ t12:Int,cell w10 p2 1=some (.int .i64 t12) /\
       ∃ t13:Int,cell w10 p2 2=some (.int .i64 t13) /\
       ∀ w14,Ext w10 w14 ->
       FnP Tryz.prog zeh #[(.agg #[(.int .i64 t11),(.int .i64 t12),(.int .i64 t13)])] w14 fun v15 w15 =>
        Ext w14 w15 /\
        ∃ t16:ByteArray,v15=(.string t16) /\
        ((t16≠s) ->
         ∀ w17,zag [b0] [] w10 w17 ->
         Q (.tuple #[(.agg #[(.int .i64 0),(.int .i64 0),(.int .i64 0)]),(.int .i64 3)]) w17) /\
        ((t16=s) ->
         p2≠none /\
         ∃ t17:Int,cell w10 p2 0=some (.int .i64 t17) /\
         ∃ t18:Int,cell w10 p2 1=some (.int .i64 t18) /\
         ∃ t19:Int,cell w10 p2 2=some (.int .i64 t19) /\
         ∀ w20,Ext w10 w20 ->
         FnP Tryz.prog zbi #[(.agg #[(.int .i64 t17),(.int .i64 t18),(.int .i64 t19)])] w20 fun v21 w21 =>
          Ext w20 w21 /\
          ∃ t22:Int,v21=(.int .i64 t22) /\
          ((t22≠0) ->
           ∀ w23,zag [b0] [] w10 w23 ->
           Q (.tuple #[(.agg #[(.int .i64 0),(.int .i64 0),(.int .i64 0)]),(.int .i64 t22)]) w23) /\
          ((t22=0) ->
           p2≠none /\
           ∃ t23:Int,cell w10 p2 0=some (.int .i64 t23) /\
           ∃ t24:Int,cell w10 p2 1=some (.int .i64 t24) /\
           ∃ t25:Int,cell w10 p2 2=some (.int .i64 t25) /\
           ∀ w26,zag [b0] [] w10 w26 ->
           Q (.tuple #[(.agg #[(.int .i64 t23),(.int .i64 t24),(.int .i64 t25)]),(.int .i64 0)]) w26))
theorem zAa {w w10:World} {s:ByteArray} {p2:Option Addr} {b0:Nat} {cur:Nd} (x10:Ext w w10) (hb0:w.heap.size<=b0) (c10:zBY w10 p2 cur) (hp:p2≠none) (hr:rng cur) (g:GB w)
    (hgood:∀ x,okN x->s=ofL (zbq x)->cur=x):rtail s p2 b0 w10 (RQ w s):=by
  have k0:=c10 0 _ rfl
  have k1:=c10 1 _ rfl
  have k2:=c10 2 _ rfl
  have bx:∀ {w':World},zag [b0] [] w10 w'->Ext w w':=fun h=>zaw h x10 (by intro d hd; simp at hd; omega)
  refine ⟨hp,_,k0,_,k1,_,k2,fun w14 h14=>(zxJ cur hr w14 (g.ext (x10.trans h14))).mono fun v w15 ⟨e15,hv⟩=>⟨e15,_,hv,fun hne w17 x17=>⟨bx x17,za7,_,rfl,fun _=>rfl,fun h=>by omega,fun x hx hs=>?_⟩,fun heq=>⟨hp,_,k0,_,k1,_,k2,fun w20 h20=>(zeA cur w20).mono fun v w21 ⟨e21,hv⟩=>⟨e21,_,hv,fun hne w23 x23=>⟨bx x23,za7,_,rfl,fun _=>rfl,fun h=>absurd h hne,fun x hx hs=>?_⟩,fun hz=>⟨hp,_,k0,_,k1,_,k2,fun w26 x26=>⟨bx x26,cur,0,rfl,fun h=>absurd rfl h,fun _=>⟨zbc.1 hz,heq.symm⟩,fun x hx hs=>⟨rfl,hgood x hx hs⟩⟩⟩⟩⟩⟩⟩
  · exact absurd (by rw [hgood x hx hs]; exact hs.symm) hne
  · exact absurd (zbc.2 (by rw [hgood x hx hs]; exact hx)) hne
theorem zDK (s:ByteArray) (hs:s.size<4294967281) (w:World) (g:GB w):FnP Tryz.prog zfr #[.string s] w (RQ w s):=by
  refine znQ s w _ fun b0 hb0 w1 x1=>zbG (by simp [Value.oneCell']) fun w2 o2 e2=>?_
  have h1:=zaa x1
  have l0:=x1.lt b0 (by simp)
  have o2:=o2 w.heap.size h1.size
  have np:(some (⟨w1.heap.size,0,none⟩:Addr))≠none:=by simp
  have h2:=h1.trans e2
  have rz:rng za7:=fun i hi=>by
    match i,hi with
    |0,_ => simp [zce,za7]
    |1,_ => simp [zce,za7]
    |2,_ => simp [zce,za7]
  have hpb:∀ y,(some (⟨w1.heap.size,0,none⟩:Addr))=some y->y.block≠b0:=fun y hy=>by obtain rfl:=Option.some.inj hy; show w1.heap.size≠b0; omega
  have hpl:∀ y,(some (⟨w1.heap.size,0,none⟩:Addr))=some y->y.block<w2.heap.size:=fun y hy=>(o2.lt y hy).2
  generalize hpp:(some (⟨w1.heap.size,0,none⟩:Addr))=p at o2 np hpb hpl ⊢
  refine ⟨fun hne w3 x3=>?_,fun heq=>?_⟩
  rotate_left
  · refine zAa (cur:=za7) h2 hb0 o2.cells np rz g fun x hx hs=>?_
    have hl:zbq x=[45]:=zmO (hs.symm.trans heq)
    by_cases hp:pcs x 3=[]
    · refine zou ?_
      have:idx x 3=[]:=by simpa [pcs] using hp
      intro i hi
      rw [this]
      exact zjH i hi
    · exfalso
      unfold zbq at hl
      rw [if_neg hp] at hl
      cases hc:pcs x 3 with
      |nil => exact hp hc
      |cons a l =>
        rw [hc,Lib.join_cons] at hl
        have ha:a∈pcs x 3:=by rw [hc]; exact List.mem_cons_self ..
        obtain ⟨i,_,rfl⟩:=List.mem_map.1 ha
        have:=congrArg List.length hl
        unfold zgF at this
        have h3:(pn i).data.toList.length=3:=zzY i
        rw [List.length_append,List.length_append,h3] at this
        simp at this
        omega
  have h3:=h2.trans (zaa x3)
  have g3:=g.ext h3
  refine (zeX 44 s hs w3 g3).mono fun v w4 ⟨e4,hv,hc4,_⟩=>⟨e4,_,_,_,hv,?_⟩
  have spn:(some (⟨w3.heap.size,0,none⟩:Addr))≠none:=by simp
  have apsp:zbK (some (⟨w3.heap.size,0,none⟩:Addr)) p:=fun a b ha hb he=>by
    obtain rfl:=Option.some.inj ha
    have h5:=hpl b hb
    have h6:=(zaa x3).size
    have h7:w3.heap.size=b.block:=he
    omega
  generalize (some (⟨w3.heap.size,0,none⟩:Addr))=sp at hc4 spn apsp ⊢
  have slen:=zeL (c:=44) _ s rfl
  have ssz:∀ i q,(Lib.splitB (one 44) 0 (Lib.countB s (one 44)) s)[i]?=some q->q.size+i<=s.size:=fun i q h=>zcy _ s i q h
  have sgood:∀ x,okN x->s=ofL (zbq x)->Lib.countB s (one 44)+1=(idx x 3).length/\Lib.splitB (one 44) 0 (Lib.countB s (one 44)) s=(pcs x 3).map ofL:=fun x hx hsx=>by
    have:=zBv hx fun h=>hne (by rw [hsx,h]; rfl)
    rwa [<- hsx] at this
  generalize Lib.splitB (one 44) 0 (Lib.countB s (one 44)) s=S at hc4 slen ssz sgood
  generalize Lib.countB s (one 44)=n at slen sgood ⊢
  refine ⟨fun k w'=>Ext w w'/\0<=k/\k<=(n+1:Nat)/\zav w' sp (S.map Value.string)/\∃ cur,Own w.heap.size w' zio 3 p 1 1 (zwI cur)/\rng cur/\∀ x,okN x->s=ofL (zbq x)->good x cur k.toNat,fun k _=>(n+1-k).toNat,
    ⟨h3.trans e4,by omega,by omega,hc4,za7,(o2.ext (zaa x3)).ext e4,rz,fun x _ _=>zjH⟩,?_⟩
  rintro k w10 ⟨x10,hk0,hk1,c10,cur,o10,hr,hgd⟩
  refine ⟨fun hlt=>?_,fun hge=>?_⟩
  rotate_left
  · refine zAa (cur:=cur) x10 hb0 o10.cells np hr g fun x hx hsx=>zou ?_
    have:=hgd x hx hsx
    rwa [show k.toNat=(idx x 3).length by have:=(sgood x hx hsx).1; omega] at this
  obtain ⟨pc,hpc⟩:∃ pc,S[k.toNat]?=some pc:=⟨_,List.getElem?_eq_getElem (by omega)⟩
  have hcell:Go.Sx.cell w10 (pIdx sp k 1) 0=some (.string pc):=by
    rw [zae]
    exact c10 _ _ (by simp [hpc])
  have hpsz:=ssz _ _ hpc
  refine ⟨spn,hk0,hlt,_,hcell,fun w12 h12=>(zwN 61 pc (by omega) w12 ((g.ext x10).ext h12)).mono fun v w13 ⟨e13,hv⟩=>⟨e13,_,_,_,hv,fun w17 x17=>?_⟩⟩
  have hx17:=x10.trans (zaa x17)
  have hcsz:(Lib.cut pc.data.toList [61]).2.1.length<=pc.size:=by have:=zhF pc.data.toList 61; rwa [zhC] at this
  have hthis:∀ x,okN x->s=ofL (zbq x)->∃ i,(idx x 3)[k.toNat]?=some i/\i<3/\0<zce x i/\ofL (Lib.cut pc.data.toList [61]).1=pn i/\Lib.parseIntB 64 (ofL (Lib.cut pc.data.toList [61]).2.1).data.toList=.ok (zce x i):=fun x hx hsx=>by
    have hS:=(sgood x hx hsx).2
    rw [hS,List.getElem?_map] at hpc
    unfold pcs at hpc
    rw [List.getElem?_map,Option.map_map,Option.map_eq_some_iff] at hpc
    obtain ⟨i,hi,rfl⟩:=hpc
    have hm:=zpu (List.mem_of_getElem? hi)
    have hb:=zpK.1 hx i hm.1
    have hcut:Lib.cut (ofL (zgF x i)).data.toList [61]=((pn i).data.toList,Lib.itoa (zce x i),true):=zxa _ (zHh hm.1).1
    have hcut':Lib.cut ((ofL∘zgF x) i).data.toList [61]=((pn i).data.toList,Lib.itoa (zce x i),true):=hcut
    rw [hcut']
    exact ⟨i,hi,hm.1,by omega,zb9 _,zep hb⟩
  generalize (ofL (Lib.cut pc.data.toList [61]).1)=name at hthis ⊢
  have hnsz:(ofL (Lib.cut pc.data.toList [61]).2.1).size<=281474976710656:=by rw [zat]; omega
  generalize (ofL (Lib.cut pc.data.toList [61]).2.1)=num at hthis hnsz ⊢
  refine (zjB num hnsz w17 (g.ext hx17)).mono fun v w18 ⟨e18,vn,ev,hv,hcase⟩=>⟨e18,vn,ev,hv,fun w21 h21=>?_⟩
  have hx18:=hx17.trans e18
  refine zi9 (by kernel_rfl) (hcase.elim (fun h=>.inl h.1) fun h=>.inr h.1) fun t ht=>⟨Ext.refl _,t,rfl,fun hbad w24 x24=>⟨zaw x24 hx18 (by intro d hd; simp at hd; omega),za7,3,rfl,fun _=>rfl,fun h=>by omega,fun x hx hsx=>?_⟩,fun hok w24 x24=>?_⟩
  · exfalso
    obtain ⟨i,_,_,hpos,_,hpar⟩:=hthis x hx hsx
    rcases hcase with ⟨h1,h2⟩|⟨_,h2⟩
    · rw [hpar] at h2
      injection h2 with h2
      rcases hbad with h|h
      · rw [ht.2 h1] at h; cases h
      · omega
    · exact h2 _ hpar
  have hx24:=hx18.trans (zaa x24)
  obtain ⟨hev,hpar⟩:ev=.nilIface/\Lib.parseIntB 64 num.data.toList=.ok vn:=by
    rcases hcase with h|⟨⟨a,b,h⟩,_⟩
    · exact h
    · have:=ht.1 hok.1
      rw [h] at this; cases this
  have o24:Own w.heap.size w24 zio 3 p 1 1 (zwI cur):=(((o10.ext (zaa x17)).ext e18).ext (zaa x24))
  have c24:zav w24 sp (S.map Value.string):=(((c10.ext (zaa x17)).ext e18).ext (zaa x24))
  refine (ztw p np w24).mono fun v w25 ⟨e25,q,hv,hq,hqb⟩=>⟨e25,q,3,3,hv,?_⟩
  have apq:zbK q p:=fun a b ha hb he=>by
    have h5:=hqb a ha
    have h6:=(o24.lt b hb).2
    omega
  refine ⟨fun k30 w'=>Ext w w'/\0<=k30/\k30<=3/\zav w' sp (S.map Value.string)/\zav w' q (zvQ p)/\Own w.heap.size w' zio 3 p 1 1 (zwI (upN cur name vn k30.toNat)),fun k30 _=>(3-k30).toNat,
    ⟨hx24.trans e25,by omega,by omega,c24.ext e25,hq,by rw [show (0:Int).toNat=0 from rfl,zAu]; exact o24.ext e25⟩,?_⟩
  rintro k30 w31 ⟨x31,hj0,hj3,c31,q31,o31⟩
  refine ⟨fun hjlt=>?_,fun hjge=>?_⟩
  · obtain ⟨d1,d2⟩:=ztv q31 hj0 hjlt
    have hj:k30.toNat<3:=by omega
    refine ⟨fun hq=>zai d1 (zah.2 hq),hj0,hjlt,zai d1,_,d1,_,d2,fun b34 hb34=>⟨fun heq=>⟨fun h=>np (zdj.1 h),?_⟩,fun hne=>⟨i64 (by omega),⟨x31,by omega,by omega,c31,q31,?_⟩,by simp only []; omega⟩⟩⟩
    · refine zcr o31 (by simpa using hj) rfl (fun b hb y hy=>?_) fun w35 o35 g35=>⟨i64 (by omega),⟨g35.ext x31 o31,by omega,by omega,c31.grew apsp g35,q31.grew apq g35,?_⟩,by simp only []; omega⟩
      · simp only [List.mem_cons,List.mem_singleton,List.mem_nil_iff,or_false] at hb
        rcases hb with rfl|rfl
        · exact hpb y hy
        · have:=(o31.lt y hy).2; omega
      · rw [show (k30+1).toNat=k30.toNat+1 by omega,<- zE1 hj heq]
        exact o35
    · rw [show (k30+1).toNat=k30.toNat+1 by omega,zAt hj hne]
      exact o31
  · obtain rfl:k30=3:=by omega
    refine ⟨i64 (by omega),⟨x31,by omega,by omega,c31,upN cur name vn 3,o31,fun i hi=>?_,fun x hx hsx=>?_⟩,by simp only []; omega⟩
    · rw [zE0 hi]
      split
      · have:=zvN hpar hok.2
        omega
      · exact hr i hi
    · obtain ⟨i,hi,hi3,_,hname,hp2⟩:=hthis x hx hsx
      rw [hpar] at hp2
      injection hp2 with hp2
      rw [hp2,hname,show (k+1).toNat=k.toNat+1 by omega]
      exact zuN (hgd x hx hsx) hi
def zfy (s:ByteArray):List Int:=s.data.toList.map fun b=>(b.toNat:Int)
theorem zAL (s:ByteArray):(zfy s).length=s.size:=by simp [zfy]
theorem zK5 {P:Program} {src dst e:TypeId} {s:ByteArray} (hs:P.underlying src=some .string) (hd:P.underlying dst=some (.slice e)) (he:P.underlying e=some (.int .u8)) {w:World} {K:Value->World->Prop}
    (hk:∀ p c w',Ext w w'->zdP .u8 w' p (zfy s)->K (.slice p s.size c) w'):Run P (.convert src dst (.string s)) w K:=by
  refine ⟨_,_,run_bytes_of_string w src dst e s hs hd he,hk _ _ _ ?_ fun i v hv=>?_⟩
  · exact Below.alloc (B:=w.heap.size) (a:=w) (w:=w.drew) ⟨rfl,rfl,rfl,Nat.le_refl _,fun _ _=>rfl⟩ (Nat.le_refl _) _
  · obtain ⟨hi,hv⟩:=List.getElem?_eq_some_iff.1 hv
    have hi':i<s.data.size:=by simpa [zfy] using hi
    have hc:=World.cell?_alloc_mark w.drew (bytesRow s (grownCap w s.size 0 e)) e ((bytesRow s (grownCap w s.size 0 e)).size,(bytesRow s (grownCap w s.size 0 e)).size+1) i
    rw [bytesRow_at s _ i hi'] at hc
    simp only [cell,Option.bind_some]
    have ha:(Addr.add ⟨w.heap.size,0,none⟩ i)=⟨w.drew.heap.size,i,none⟩:=by simp [Addr.add]; intro h; exact h.symm
    rw [ha,hc,<- hv]
    simp [zfy]
inductive AT where
  |mk (k:Int) (key val:ByteArray) (n:Int) (xs:List AT)
def AT.k:AT->Int|.mk k _ _ _ _=>k
def AT.key:AT->ByteArray|.mk _ key _ _ _=>key
def AT.val:AT->ByteArray|.mk _ _ val _ _=>val
def AT.n:AT->Int|.mk _ _ _ n _=>n
def AT.xs:AT->List AT|.mk _ _ _ _ xs=>xs
theorem AT.eta (t:AT):t=.mk t.k t.key t.val t.n t.xs:=by cases t; rfl
theorem AT.ind {P:AT->Prop} (h:∀ k key val n xs,(∀ x∈xs,P x)->P (.mk k key val n xs)) (t:AT):P t:=by
  refine AT.rec (motive_1:=P) (motive_2:=fun l=>∀ x∈l,P x) ?_ ?_ ?_ t
  · intro k key val n xs ih; exact h k key val n xs ih
  · intro x hx; cases hx
  · intro x l h1 h2 y hy
    rcases List.mem_cons.1 hy with rfl|hy
    · exact h1
    · exact h2 y hy
def zos (t:AT) (p:Option Addr) (c:Nat):List Value:=[.int .i64 t.k,.string t.key,.string t.val,.int .i64 t.n,.slice p t.xs.length c]
abbrev av (t:AT) (p:Option Addr) (c:Nat):Value:=.agg #[.int .i64 t.k,.string t.key,.string t.val,.int .i64 t.n,.slice p t.xs.length c]
mutual
def IsT (w:World):AT->Option Addr->Nat->Prop
  |.mk _ _ _ _ xs,p,c => xs.length<=c/\IsL w xs p 0
def IsL (w:World):List AT->Option Addr->Nat->Prop
  |[],_,_ => True
  |x::r,p,i => (∃ p' c',(∀ j u,(zos x p' c')[j]?=some u->cell w p (i*5+j)=some u)/\IsT w x p' c')/\IsL w r p (i+1)
end
theorem IsL.get {w:World}:∀ {xs:List AT} {p:Option Addr} {i:Nat},IsL w xs p i->∀ {j:Nat} {x:AT},xs[j]?=some x->∃ p' c',(∀ m u,(zos x p' c')[m]?=some u->cell w p ((i+j)*5+m)=some u)/\IsT w x p' c'
  |[],p,i,h,j,x,hx => by simp at hx
  |y::r,p,i,h,j,x,hx => by
    unfold IsL at h
    cases j with
    |zero =>
      simp at hx; subst hx
      exact h.1
    |succ j =>
      have:=IsL.get h.2 (j:=j) (x:=x) (by simpa using hx)
      rw [show i+(j+1)=i+1+j by omega]
      exact this
theorem IsL.of {w:World}:∀ {xs:List AT} {p:Option Addr} {i:Nat},(∀ (j:Nat) (x:AT),xs[j]?=some x->∃ p' c',(∀ m u,(zos x p' c')[m]?=some u->cell w p ((i+j)*5+m)=some u)/\IsT w x p' c')->IsL w xs p i
  |[],p,i,h => by unfold IsL; trivial
  |y::r,p,i,h => by
    unfold IsL
    refine ⟨h 0 y rfl,IsL.of fun j x hx=>?_⟩
    have:=h (j+1) x (by simpa using hx)
    rw [show i+(j+1)=i+1+j by omega] at this
    exact this
theorem IsT.ext {w w':World} (he:Ext w w'):∀ (t:AT) (p:Option Addr) (c:Nat),IsT w t p c->IsT w' t p c:=by
  intro t
  induction t using AT.ind with
  |h k key val n xs ih =>
    intro p c h
    unfold IsT at h ⊢
    refine ⟨h.1,IsL.of fun j x hx=>?_⟩
    obtain ⟨p',c',h1,h2⟩:=h.2.get hx
    exact ⟨p',c',fun m u hu=>zaD he (h1 m u hu),ih x (List.mem_of_getElem? hx) p' c' h2⟩
theorem IsT.at {w:World} {t:AT} {p:Option Addr} {c:Nat} (h:IsT w t p c) {k:Int} (h0:0<=k) (hk:k<t.xs.length) :
    ∃ x p' c',t.xs[k.toNat]?=some x/\x∈t.xs/\IsT w x p' c'/\p≠none/\pIdx p k 5≠none/\cell w (pIdx p k 5) 0=some (.int .i64 x.k)/\cell w (pIdx p k 5) 1=some (.string x.key)/\cell w (pIdx p k 5) 2=some (.string x.val) /\
      cell w (pIdx p k 5) 3=some (.int .i64 x.n)/\cell w (pIdx p k 5) 4=some (.slice p' x.xs.length c'):=by
  cases t with
  |mk kk key val n xs =>
    unfold IsT at h
    have hk:k<xs.length:=hk
    obtain ⟨x,hx⟩:∃ x,xs[k.toNat]?=some x:=⟨_,List.getElem?_eq_getElem (by omega)⟩
    obtain ⟨p',c',h1,h2⟩:=h.2.get hx
    simp only [Nat.zero_add] at h1
    have g:∀ (m:Nat) u,(zos x p' c')[m]?=some u->cell w (pIdx p k 5) m=some u:=fun m u hu=>by rw [zae]; exact h1 m u hu
    have g0:=g 0 _ rfl
    exact ⟨x,p',c',hx,List.mem_of_getElem? hx,h2,fun hq=>zai g0 (zah.2 hq),zai g0,g0,g 1 _ rfl,g 2 _ rfl,g 3 _ rfl,g 4 _ rfl⟩
mutual
def WfA:AT->Prop
  |.mk k key val n xs => InR .i64 k/\key.size<=9223372036854775807/\val.size<=9223372036854775807/\InR .i64 n/\xs.length<=9223372036854775807/\WfL xs
def WfL:List AT->Prop
  |[] => True
  |x::r => WfA x/\WfL r
end
theorem WfL.mem:∀ {l:List AT},WfL l->∀ x∈l,WfA x
  |[],_,x,hx => by cases hx
  |y::r,h,x,hx => by
    unfold WfL at h
    rcases List.mem_cons.1 hx with rfl|hx
    · exact h.1
    · exact WfL.mem h.2 x hx
theorem WfL.of:∀ {l:List AT},(∀ x∈l,WfA x)->WfL l
  |[],_ => by unfold WfL; trivial
  |y::r,h => by unfold WfL; exact ⟨h y (List.mem_cons_self ..),WfL.of fun x hx => h x (List.mem_cons_of_mem _ hx)⟩
theorem WfA.len {t:AT} (h:WfA t):t.xs.length<=9223372036854775807:=by cases t; unfold WfA at h; exact h.2.2.2.2.1
theorem WfA.sub {t:AT} (h:WfA t):∀ x∈t.xs,WfA x:=by cases t; unfold WfA at h; exact h.2.2.2.2.2.mem
theorem zFR {w:World}:∀ (n:Nat) (cs:List Value),Go.Sx.Good Tryz.prog w n zdQ cs->∃ t p c,cs=zos t p c/\IsT w t p c/\WfA t:=by
  intro n
  induction n using Nat.strongRecOn with
  |_ n ih =>
  intro cs hg
  have hlv:=zcM (P:=Tryz.prog) 6 zdQ [zd8,zay,zay,zdd,zck] n cs (by kernel_rfl) hg
  obtain ⟨v0,r0,rfl,l0,hlv⟩:=zaj hlv
  obtain ⟨v1,r1,rfl,l1,hlv⟩:=zaj hlv
  obtain ⟨v2,r2,rfl,l2,hlv⟩:=zaj hlv
  obtain ⟨v3,r3,rfl,l3,hlv⟩:=zaj hlv
  obtain ⟨v4,r4,rfl,l4,hlv⟩:=zaj hlv
  obtain rfl:=zhN hlv
  obtain ⟨k,rfl,hk⟩:=zaJ (k:=.i64) (by kernel_rfl) l0
  obtain ⟨key,rfl,hkey⟩:=zc0 (by kernel_rfl) l1
  obtain ⟨val,rfl,hval⟩:=zc0 (by kernel_rfl) l2
  obtain ⟨m,rfl,hm⟩:=zaJ (k:=.i64) (by kernel_rfl) l3
  have hsl:∃ n',n'<n/\Go.Sx.Good Tryz.prog w n' zck [v4]:=by
    cases n with
    |zero => exact hg.elim
    |succ n =>
      unfold Go.Sx.Good at hg
      have hu:Tryz.prog.underlying zdQ=some (.struct (Tryz.prog.fieldsOf zdQ)):=by kernel_rfl
      rw [hu] at hg
      have hf:((Tryz.prog.fieldsOf zdQ)[4]?).map (fun f=>(f.type,f.offset))=some (zck,4):=by kernel_rfl
      obtain ⟨f,hf1,hf2⟩:=Option.map_eq_some_iff.1 hf
      simp only [Prod.mk.injEq] at hf2
      have:=hg.2 f (by have:=Array.mem_of_getElem? hf1; simpa using this)
      rw [hf2.1,hf2.2] at this
      exact ⟨n,by omega,by simpa [show Tryz.prog.cellsOf zck=1 by kernel_rfl] using this⟩
  obtain ⟨n1,hn1,hsl⟩:=hsl
  have hin:∃ p l c,v4=.slice p l c/\l<=c/\c<=9223372036854775807/\(p=none->c=0)/\∀ a,p=some a->∀ i,i<c->∃ n2 es,n2<n/\w.cells? 0 (a.add (i*5)) 5=some es/\Go.Sx.Good Tryz.prog w n2 zdQ es:=by
    cases n1 with
    |zero => exact hsl.elim
    |succ n1 =>
      unfold Go.Sx.Good at hsl
      have hu:Tryz.prog.underlying zck=some (.slice zdQ):=by kernel_rfl
      have hc5:Tryz.prog.cellsOf zdQ=5:=by kernel_rfl
      rw [hu] at hsl
      simp only [hc5] at hsl
      rcases hsl with h|⟨a,len,cap,h,h1,h2,h3⟩
      · simp only [List.cons.injEq,and_true] at h
        exact ⟨none,0,0,h,Nat.le_refl _,by omega,fun _=>rfl,fun a ha=>by cases ha⟩
      · simp only [List.cons.injEq,and_true] at h
        refine ⟨some a,len,cap,h,h1,h2,fun ha=>(by cases ha),fun b hb i hi=>?_⟩
        obtain rfl:=Option.some.inj hb
        obtain ⟨es,h4,h5⟩:=h3 i hi
        exact ⟨n1,es,by omega,h4,h5⟩
  obtain ⟨p,l,c,rfl,hlc,hcm,hpn,hel⟩:=hin
  have hxs:∀ (d i:Nat),i+d=l->∃ xs:List AT,xs.length=d/\(∀ x∈xs,WfA x)/\IsL w xs p i:=by
    intro d
    induction d with
    |zero => exact fun i _ => ⟨[],rfl,fun x hx => (by cases hx),by unfold IsL; trivial⟩
    |succ d ihd =>
      intro i hi
      obtain ⟨xs,h1,h2,h3⟩:=ihd (i+1) (by omega)
      cases p with
      |none => have:=hpn rfl; omega
      |some a =>
        obtain ⟨n2,es,h4,h5,h6⟩:=hel a rfl i (by omega)
        obtain ⟨x,p',c',rfl,h7,h8⟩:=ih n2 h4 es h6
        refine ⟨x::xs,by simp [h1],fun y hy=>?_,?_⟩
        · rcases List.mem_cons.1 hy with rfl|hy
          · exact h8
          · exact h2 y hy
        · unfold IsL
          refine ⟨⟨p',c',fun j u hu=>?_,h7⟩,h3⟩
          have:=(cells?_some h5).2 j u hu
          simp only [cell,Option.bind_some] at this ⊢
          rw [<- zfv]; exact this
  obtain ⟨xs,h1,h2,h3⟩:=hxs l 0 (by omega)
  subst h1
  exact ⟨.mk k key val m xs,p,c,rfl,by unfold IsT; exact ⟨hlc,h3⟩,by unfold WfA; exact ⟨hk,hkey,hval,hm,by omega,WfL.of h2⟩⟩
theorem zJv {W:World} {p:Option Addr} {l c:Nat} (h:zaA Tryz.prog W zdQ p l c) {k:Int} (hk:InR .i64 k) {key val:ByteArray} (hkey:key.size<=9223372036854775807) (hval:val.size<=9223372036854775807) {n:Int} (hn:InR .i64 n) :
    ∃ t:AT,t.k=k/\t.key=key/\t.val=val/\t.n=n/\t.xs.length=l/\IsT W t p c/\WfA t:=by
  have hc5:Tryz.prog.cellsOf zdQ=5:=by kernel_rfl
  have hxs:∀ (d i:Nat),i+d=l->∃ xs:List AT,xs.length=d/\(∀ x∈xs,WfA x)/\IsL W xs p i:=by
    intro d
    induction d with
    |zero => exact fun i _ => ⟨[],rfl,fun x hx => (by cases hx),by unfold IsL; trivial⟩
    |succ d ihd =>
      intro i hi
      obtain ⟨xs,h1,h2,h3⟩:=ihd (i+1) (by omega)
      have hle:=h.le
      cases p with
      |none => have:=h.nil rfl; omega
      |some a =>
        obtain ⟨n2,es,h5,h6⟩:=h.el a rfl i (by omega)
        rw [hc5] at h5
        obtain ⟨x,p',c',rfl,h7,h8⟩:=zFR n2 es h6
        refine ⟨x::xs,by simp [h1],fun y hy=>?_,?_⟩
        · rcases List.mem_cons.1 hy with rfl|hy
          · exact h8
          · exact h2 y hy
        · unfold IsL
          refine ⟨⟨p',c',fun j u hu=>?_,h7⟩,h3⟩
          have:=(cells?_some h5).2 j u hu
          simp only [cell,Option.bind_some] at this ⊢
          rw [<- zfv]; exact this
  obtain ⟨xs,h1,h2,h3⟩:=hxs l 0 (by omega)
  have:=h.le
  have:=h.max
  subst h1
  exact ⟨.mk k key val n xs,rfl,rfl,rfl,rfl,rfl,by unfold IsT; exact ⟨h.le,h3⟩,by unfold WfA; exact ⟨hk,hkey,hval,hn,by omega,WfL.of h2⟩⟩
def okC (b:Int):Bool:=(decide (97<=b)&&decide (b<=122))||(decide (48<=b)&&decide (b<=57))||decide (b=45)
def lbB (s:ByteArray):Bool:=decide (0<s.size)&&decide (s.size<=20)&&decide (97<=sAt s 0)&&decide (sAt s 0<=122)&&(zfy s).all okC
def zBJ:ByteArray:=⟨#[99,112,117]⟩
def memS:ByteArray:=⟨#[109,101,109]⟩
def gpuS:ByteArray:=⟨#[103,112,117]⟩
def unB (s:ByteArray):Bool:=decide (s=zBJ)||decide (s=memS)||decide (s=gpuS)
def emS:ByteArray:=⟨#[]⟩
def zfT (k:Int):Nat:=if k=5\/k=6 then 2 else if k=4 then 1 else 0
def zk7 (k:Int) (key val:ByteArray) (n:Int) (l:Nat):Int :=
  if k<1\/6<k then 1 else if l≠zfT k then 1
  else if (4<=k/\key≠emS)\/(k≠2/\val≠emS)\/(k≠3/\n≠0) then 1
  else if (k=3/\unB key=false)\/((k=1\/k=2)/\lbB key=false)\/(k=2/\lbB val=false) then 3
  else if n<0\/1099511627776<n then 4 else 0
mutual
def zeY:AT->Int
  |.mk k key val n xs => if zk7 k key val n xs.length≠0 then zk7 k key val n xs.length else zAV xs
def zAV:List AT->Int
  |[] => 0
  |x::r => if zeY x≠0 then zeY x else zAV r
end
mutual
def zJE:AT->Int
  |.mk _ _ _ _ xs => zFn xs 1
def zFn:List AT->Int->Int
  |[],n => n
  |x::r,n => zFn r (IntKind.wrap .i64 (n+zJE x))
end
def zmh (t:AT):Int:=if 60<zJE t then 2 else zeY t
theorem zph:∀ {l:List AT},zAV l=0↔∀ x∈l,zeY x=0
  |[] => by unfold zAV; simp
  |y::r => by
    unfold zAV
    have:=zph (l:=r)
    by_cases h:zeY y=0
    · simp [h,this]
    · simp [h]
theorem zrS:∀ {l:List AT} {k:Nat} {x:AT},l[k]?=some x->(∀ j y,j<k->l[j]?=some y->zeY y=0)->zeY x≠0->zAV l=zeY x
  |[],k,x,h,_,_ => by simp at h
  |y::r,0,x,h,_,hx => by simp at h; subst h; unfold zAV; rw [if_pos hx]
  |y::r,k+1,x,h,hb,hx => by
    unfold zAV
    rw [if_neg (by simp [hb 0 y (by omega) rfl])]
    exact zrS (by simpa using h) (fun j z hj hz=>hb (j+1) z (by omega) (by simpa using hz)) hx
mutual
def zwL (at_:AT->Bool):AT->Bool
  |.mk k key val n xs => if k=4 then !(zHT at_ xs).getD 0 false else if k=5 then (zHT at_ xs).getD 0 false&&(zHT at_ xs).getD 1 false else if k=6 then (zHT at_ xs).getD 0 false||(zHT at_ xs).getD 1 false else at_ (.mk k key val n xs)
def zHT (at_:AT->Bool):List AT->List Bool
  |[] => []
  |x::r => zwL at_ x::zHT at_ r
end
theorem zHU (at_:AT->Bool) (l:List AT):zHT at_ l=l.map (zwL at_):=by
  induction l with
  |nil => unfold zHT; rfl
  |cons x r ih => unfold zHT; rw [ih]; rfl
theorem zgZ {t:AT} (h:zeY t=0):zk7 t.k t.key t.val t.n t.xs.length=0/\∀ x∈t.xs,zeY x=0:=by
  cases t with
  |mk k key val n xs =>
    unfold zeY at h
    split at h
    · rename_i h1; exact absurd h h1
    · rename_i h1
      exact ⟨Classical.not_not.1 h1,zph.1 h⟩
theorem zsM {k:Int} {key val:ByteArray} {n:Int} {l:Nat} (h:zk7 k key val n l=0):l=zfT k:=by
  unfold zk7 at h
  split at h
  · omega
  · split at h
    · omega
    · rename_i h2; exact Classical.not_not.1 h2
theorem zgs (s:ByteArray) (hs:s.size<=9223372036854775807) (w:World):FnP Tryz.prog zbo #[.string s] w fun v w'=>Ext w w'/\v=.bool (lbB s):=by
  have hem:s≠emS↔0<s.size:=by
    constructor
    · intro h
      refine Nat.pos_of_ne_zero fun h0=>h ?_
      have h1:s.data.size=0:=h0
      have h2:s=ByteArray.empty:=by simpa using h1
      rw [h2]; rfl
    · rintro h rfl
      simp [emS] at h; exact absurd h (by decide)
  refine zvq s w _ ⟨fun _=>by omega,fun h=>?_,fun _=>by omega,fun h=>?_,fun h w0 h0=>⟨h0,?_⟩,fun h w0 h0=>?_⟩
  · have:=hem.1 h.1; omega
  · have:=hem.1 h.1.1; omega
  · congr 1
    symm
    unfold lbB
    rcases h with ((h|h)|h)|h
    · have:¬ 0<s.size:=fun hp=>(hem.2 hp) h
      simp [this]
    · have:¬ s.size<=20:=by omega
      simp [this]
    · have:¬ 97<=sAt s 0:=by omega
      simp [this]
    · have:¬ sAt s 0<=122:=by omega
      simp [this]
  · obtain ⟨⟨⟨h1,h2⟩,h3⟩,h4⟩:=h
    have hp:=hem.1 h1
    refine zK5 (e:=zaQ) (by kernel_rfl) (by kernel_rfl) (by kernel_rfl) fun p c w1 e1 hb=>⟨e1,p,s.size,c,rfl,?_⟩
    have hlen:=zAL s
    refine ⟨fun k w'=>w'=w1/\0<=k/\k<=s.size/\∀ i:Nat,(i:Int)<k->okC ((zfy s).getD i 0)=true,fun k _=>(s.size-k).toNat,⟨rfl,by omega,by omega,fun i hi=>by omega⟩,?_⟩
    rintro k w1 ⟨rfl,hk0,hk1,hall⟩
    refine ⟨fun hlt=>?_,fun hge w8 h8=>⟨(h0.trans e1).trans h8,?_⟩⟩
    · have g:=zdP.idx hb hk0 (by omega)
      refine ⟨fun hq=>zai g (zah.2 hq),hk0,hlt,_,g,fun hbad w9 h9=>⟨(h0.trans e1).trans h9,?_⟩,fun hok=>⟨i64 (by omega),⟨rfl,by omega,by omega,fun i hi=>?_⟩,by simp only []; omega⟩⟩
      · congr 1
        symm
        have hno:okC ((zfy s).getD k.toNat 0)=false:=by
          unfold okC
          generalize (zfy s).getD k.toNat 0=b at hbad
          simp; omega
        have:(zfy s).all okC=false:=by
          rw [List.all_eq_false]
          exact ⟨_,zap (zfy s) 0 (i:=k.toNat) (by omega),by rw [hno]; simp⟩
        unfold lbB
        simp [this]
      · by_cases hik:(i:Int)<k
        · exact hall i hik
        · obtain rfl:i=k.toNat:=by omega
          unfold okC
          generalize (zfy s).getD k.toNat 0=b at hok
          simp; omega
    · congr 1
      symm
      have:(zfy s).all okC=true:=by
        rw [List.all_eq_true]
        intro x hx
        obtain ⟨i,hi,rfl⟩:=List.getElem_of_mem hx
        have:=hall i (by omega)
        simpa [List.getD_eq_getElem?_getD,hi] using this
      unfold lbB
      simp only [this,Bool.and_true,Bool.and_eq_true,decide_eq_true_eq]
      exact ⟨⟨⟨hp,by omega⟩,h3⟩,h4⟩
theorem zJG:∀ (t:AT) (p:Option Addr) (c:Nat) (w:World),IsT w t p c->WfA t->FnP Tryz.prog zhj #[av t p c] w fun v w'=>Ext w w'/\v=.int .i64 (zJE t):=by
  intro t
  induction t using AT.ind with
  |h k key val n xs ih =>
    intro p c w hT hW
    have hlen:=hW.len
    refine zvs k key val n p xs.length c w _ fun b0 _=>?_
    refine ⟨fun m k2 w'=>w'=w/\0<=k2/\k2<=xs.length/\zFn (xs.drop k2.toNat) m=zFn xs 1,fun _ k2 _=>(xs.length-k2).toNat,⟨rfl,by omega,by omega,rfl⟩,?_⟩
    rintro m k2 w ⟨rfl,hk0,hk1,hc⟩
    refine ⟨fun hlt=>?_,fun hge w5 h5=>⟨h5,?_⟩⟩
    · obtain ⟨x,p',c',hx,hmem,hIx,hp,hp5,g0,g1,g2,g3,g4⟩:=hT.at hk0 (by exact hlt)
      have hx:xs[k2.toNat]?=some x:=hx
      refine ⟨hp,hk0,hlt,hp5,_,g0,_,g1,_,g2,_,g3,_,_,_,g4,fun b12 _ w13 h13=>?_⟩
      refine (ih x hmem p' c' w13 (hIx.ext h13 _ _ _) (hW.sub x hmem)).mono fun v w14 ⟨e14,hv⟩=>⟨e14,_,hv,i64 (by have hlen:xs.length<=9223372036854775807:=hlen; omega),⟨rfl,by omega,by omega,?_⟩,by simp only []; omega⟩
      rw [<- hc,show (k2+1).toNat=k2.toNat+1 by omega]
      obtain ⟨hi,he⟩:=List.getElem?_eq_some_iff.1 hx
      rw [List.drop_eq_getElem_cons hi,he]
      show _=zFn (x::xs.drop (k2.toNat+1)) m
      rw [zFn]
    · have hd:xs.drop k2.toNat=[]:=List.drop_of_length_le (by omega)
      rw [hd] at hc
      unfold zJE
      rw [<- hc,zFn]
theorem unit_k (s:ByteArray) (w:World):FnP Tryz.prog zmj #[.string s] w fun v w'=>Ext w w'/\v=.bool (unB s) :=
  zxQ s w _ fun w0 h0=>⟨h0,rfl⟩
theorem zJD:∀ (t:AT) (p:Option Addr) (c:Nat) (w:World),IsT w t p c->WfA t->FnP Tryz.prog zhi #[av t p c] w fun v w'=>Ext w w'/\v=.int .i64 (zeY t):=by
  intro t
  induction t using AT.ind with
  |h k key val n xs ih =>
    intro p c w hT hW
    have hlen:xs.length<=9223372036854775807:=hW.len
    have hWn:=hW
    unfold WfA at hWn
    obtain ⟨hk,hkey,hval,hn,_,_⟩:=hWn
    have E:zeY (.mk k key val n xs)=if zk7 k key val n xs.length≠0 then zk7 k key val n xs.length else zAV xs:=by rw [zeY]
    rw [E]
    have bad:∀ e:Int,zk7 k key val n xs.length=e->e≠0->∀ w1,Ext w w1->Ext w w1/\Value.int .i64 e=.int .i64 (if zk7 k key val n xs.length≠0 then zk7 k key val n xs.length else zAV xs):=fun e he hne w1 h1=>⟨h1,by rw [he,if_pos hne]⟩
    refine zvr k key val n p xs.length c w _ fun b0 _=>⟨fun hb w1 h1=>bad 1 (by unfold zk7; rw [if_pos hb]) (by omega) w1 h1,fun hg=>?_⟩
    have hr:¬ (k<1\/6<k):=by omega
    refine ⟨fun i b w'=>w'=w/\i=zfT k/\(b=true↔k<4),?_,?_⟩
    · have h5:k=5->(w=w/\((0:Int)+1)+1=zfT k/\(false=true↔k<4)):=fun h=>⟨rfl,by unfold zfT; rw [if_pos (.inl h)]; rfl,by simp; omega⟩
      have h6:k=6->(w=w/\((0:Int)+1)+1=zfT k/\(false=true↔k<4)):=fun h=>⟨rfl,by unfold zfT; rw [if_pos (.inr h)]; rfl,by simp; omega⟩
      have h4:k=4->(w=w/\(0:Int)+1=zfT k/\(false=true↔k<4)):=fun h=>⟨rfl,by unfold zfT; rw [if_neg (by omega),if_pos h]; rfl,by simp; omega⟩
      have h0:k≠4->k≠5->k≠6->(w=w/\(0:Int)=zfT k/\(true=true↔k<4)):=fun h4 h5 h6=>⟨rfl,by unfold zfT; rw [if_neg (by omega),if_neg h4]; rfl,by simp; omega⟩
      exact ⟨fun h=>⟨fun _=>⟨i64 (by omega),i64 (by omega),h5 h⟩,fun hn=>absurd h hn⟩,fun hn5=>⟨fun h=>⟨i64 (by omega),i64 (by omega),h6 h⟩,fun hn6=>⟨fun h=>⟨i64 (by omega),h4 h⟩,fun hn4=>h0 hn4 hn5 hn6⟩⟩⟩
    rintro i b w ⟨rfl,rfl,hb⟩
    refine ⟨fun hbd w5 h5=>bad 1 ?_ (by omega) w5 h5,fun hok=>?_⟩
    · unfold zk7
      rw [if_neg hr]
      by_cases hl:xs.length=zfT k
      · rw [if_neg (by simpa using hl),if_pos]
        rcases hbd with ((h|⟨h,h'⟩)|⟨h,h'⟩)|⟨h,h'⟩
        · omega
        · left
          refine ⟨?_,h'⟩
          cases b
          · simp at hb; exact hb
          · cases h
        · right; left; exact ⟨h,h'⟩
        · right; right; exact ⟨h,h'⟩
      · rw [if_pos hl]
    · obtain ⟨⟨⟨hl,hke⟩,hva⟩,hnn⟩:=hok
      have hl':xs.length=zfT k:=by omega
      have h2:¬ xs.length≠zfT k:=by simpa using hl'
      have h3:¬ ((4<=k/\key≠emS)\/(k≠2/\val≠emS)\/(k≠3/\n≠0)):=by
        rintro (⟨h,h'⟩|⟨h,h'⟩|⟨h,h'⟩)
        · rcases hke with hk'|hk'
          · have:=hb.1 hk'; omega
          · exact h' hk'
        · rcases hva with hv'|hv'
          · exact h hv'
          · exact h' hv'
        · rcases hnn with hn'|hn'
          · exact h hn'
          · exact h' hn'
      have e3:((k=3/\unB key=false)\/((k=1\/k=2)/\lbB key=false)\/(k=2/\lbB val=false))->zk7 k key val n xs.length=3:=fun h=>by
        unfold zk7; rw [if_neg hr,if_neg h2,if_neg h3,if_pos h]
      have e4:¬ ((k=3/\unB key=false)\/((k=1\/k=2)/\lbB key=false)\/(k=2/\lbB val=false))->(n<0\/1099511627776<n)->zk7 k key val n xs.length=4:=fun h h'=>by
        unfold zk7; rw [if_neg hr,if_neg h2,if_neg h3,if_neg h,if_pos h']
      have e0:¬ ((k=3/\unB key=false)\/((k=1\/k=2)/\lbB key=false)\/(k=2/\lbB val=false))->¬ (n<0\/1099511627776<n)->zk7 k key val n xs.length=0:=fun h h'=>by
        unfold zk7; rw [if_neg hr,if_neg h2,if_neg h3,if_neg h,if_neg h']
      refine ⟨fun w'=>w'=w/\zk7 k key val n xs.length=0,?_,?_⟩
      · refine ⟨fun hk3 w7 h7=>?_,fun hk3=>⟨fun hk12 w7 h7=>?_,fun hk12=>⟨fun h2=>by omega,fun hk2=>⟨fun hb4 w7 h7=>bad 4 (e4 ?_ hb4) (by omega) w7 h7,fun hg4=>⟨rfl,e0 ?_ (by omega)⟩⟩⟩⟩⟩
        · refine (unit_k key w7).mono fun v w8 ⟨e8,hv⟩=>⟨e8,_,hv,fun hf=>⟨fun _ w10 h10=>bad 3 (e3 (.inl ⟨hk3,hf⟩)) (by omega) w10 h10,fun ht=>by rw [hf] at ht; cases ht⟩,fun ht=>⟨fun hk12=>by omega,fun _=>⟨fun h2=>by omega,fun hk2=>⟨fun hb4 w10 h10=>bad 4 (e4 ?_ hb4) (by omega) w10 h10,fun hg4=>⟨rfl,e0 ?_ (by omega)⟩⟩⟩⟩⟩
          all_goals
            rintro (⟨_,h⟩|⟨h,_⟩|⟨h,_⟩)
            · rw [ht] at h; cases h
            · omega
            · omega
        · refine (zgs key hkey w7).mono fun v w8 ⟨e8,hv⟩=>⟨e8,_,hv,fun hf=>⟨fun _ w10 h10=>bad 3 (e3 (.inr (.inl ⟨hk12,hf⟩))) (by omega) w10 h10,fun ht=>by rw [hf] at ht; cases ht⟩,fun ht=>⟨fun hk2 w10 h10=>?_,fun hk2=>⟨fun hb4 w10 h10=>bad 4 (e4 ?_ hb4) (by omega) w10 h10,fun hg4=>⟨rfl,e0 ?_ (by omega)⟩⟩⟩⟩
          · refine (zgs val hval w10).mono fun v w11 ⟨e11,hv⟩=>⟨e11,_,hv,fun hf=>fun w13 h13=>bad 3 (e3 (.inr (.inr ⟨hk2,hf⟩))) (by omega) w13 h13,fun ht2=>⟨fun hb4 w13 h13=>bad 4 (e4 ?_ hb4) (by omega) w13 h13,fun hg4=>⟨rfl,e0 ?_ (by omega)⟩⟩⟩
            all_goals
              rintro (⟨h,_⟩|⟨_,h⟩|⟨_,h⟩)
              · omega
              · rw [ht] at h; cases h
              · rw [ht2] at h; cases h
          all_goals
            rintro (⟨h,_⟩|⟨_,h⟩|⟨h,_⟩)
            · omega
            · rw [ht] at h; cases h
            · omega
        all_goals
          rintro (⟨h,_⟩|⟨h,_⟩|⟨h,_⟩)
          · omega
          · omega
          · omega
      · rintro w ⟨rfl,herr⟩
        rw [herr,if_neg (by omega)]
        refine ⟨fun k2 w'=>w'=w/\0<=k2/\k2<=xs.length/\∀ (j:Nat) (y:AT),(j:Int)<k2->xs[j]?=some y->zeY y=0,fun k2 _=>(xs.length-k2).toNat,⟨rfl,by omega,by omega,fun j y hj=>by omega⟩,?_⟩
        rintro k2 w ⟨rfl,hk0,hk1,hall⟩
        refine ⟨fun hlt=>?_,fun hge w10 h10=>⟨h10,?_⟩⟩
        · obtain ⟨x,p',c',hx,hmem,hIx,hp,hp5,g0,g1,g2,g3,g4⟩:=hT.at hk0 (by exact hlt)
          have hx:xs[k2.toNat]?=some x:=hx
          refine ⟨hp,hk0,hlt,hp5,_,g0,_,g1,_,g2,_,g3,_,_,_,g4,fun b17 _ w18 h18=>?_⟩
          refine (ih x hmem p' c' w18 (hIx.ext h18 _ _ _) (hW.sub x hmem)).mono fun v w19 ⟨e19,hv⟩=>⟨e19,_,hv,fun hne w21 h21=>⟨h21,?_⟩,fun he=>⟨i64 (by omega),⟨rfl,by omega,by omega,fun j y hj hy=>?_⟩,by simp only []; omega⟩⟩
          · rw [zrS hx (fun j y hj hy=>hall j y (by omega) hy) hne]
          · by_cases hjk:(j:Int)<k2
            · exact hall j y hjk hy
            · obtain rfl:j=k2.toNat:=by omega
              rw [hx] at hy; obtain rfl:=Option.some.inj hy
              exact he
        · rw [zph.2 fun x hx=>?_]
          obtain ⟨j,hj,rfl⟩:=List.getElem_of_mem hx
          exact hall j _ (by omega) (List.getElem?_eq_getElem hj)
theorem zoS (t:AT) (p:Option Addr) (c:Nat) (w:World) (hT:IsT w t p c) (hW:WfA t):FnP Tryz.prog zee #[av t p c] w fun v w'=>Ext w w'/\v=.int .i64 (zmh t):=by
  refine zvo t.k t.key t.val t.n p t.xs.length c w _ fun b0 _ w1 h1=>?_
  refine (zJG t p c w1 (hT.ext h1 _ _ _) hW).mono fun v w2 ⟨e2,hv⟩=>⟨e2,_,hv,fun hgt w4 h4=>⟨h4,?_⟩,fun hle w4 h4=>?_⟩
  · unfold zmh; rw [if_pos hgt]
  · refine (zJD t p c w4 (hT.ext h4 _ _ _) hW).mono fun v w5 ⟨e5,hv⟩=>⟨e5,_,hv,fun w7 h7=>⟨h7,?_⟩⟩
    unfold zmh; rw [if_neg (by omega)]
theorem zLj {w0:World} {f:Value} {at_:AT->Bool} (hf:∀ (y:AT) (p:Option Addr) (c:Nat) (w:World),Ext w0 w->IsT w y p c->zeY y=0->y.k<4->zin Tryz.prog f [av y p c] w fun v w'=>Ext w w'/\v=.bool (at_ y)) :
    ∀ (t:AT) (p:Option Addr) (c:Nat) (w:World),Ext w0 w->IsT w t p c->zeY t=0->FnP Tryz.prog zcg #[av t p c,f] w fun v w'=>Ext w w'/\v=.bool (zwL at_ t):=by
  intro t
  induction t using AT.ind with
  |h k key val n xs ih =>
    intro p c w hx0 hT he
    obtain ⟨h1,hsub⟩:=zgZ he
    have hlen:xs.length=zfT k:=zsM h1
    have hin:¬ (k<1\/6<k):=fun hb=>by
      have h1:zk7 k key val n xs.length=0:=h1
      unfold zk7 at h1; rw [if_pos hb] at h1; omega
    have V:zwL at_ (.mk k key val n xs)=if k=4 then !(xs.map (zwL at_)).getD 0 false else if k=5 then (xs.map (zwL at_)).getD 0 false&&(xs.map (zwL at_)).getD 1 false else if k=6 then (xs.map (zwL at_)).getD 0 false||(xs.map (zwL at_)).getD 1 false else at_ (.mk k key val n xs):=by
      rw [zwL,zHU]
    rw [V]
    have sub:∀ (i:Int),0<=i->i<xs.length->∃ x p' c',(xs.map (zwL at_)).getD i.toNat false=zwL at_ x/\p≠none/\pIdx p i 5≠none/\Go.Sx.cell w (pIdx p i 5) 0=some (.int .i64 x.k)/\Go.Sx.cell w (pIdx p i 5) 1=some (.string x.key)/\Go.Sx.cell w (pIdx p i 5) 2=some (.string x.val) /\
        Go.Sx.cell w (pIdx p i 5) 3=some (.int .i64 x.n)/\Go.Sx.cell w (pIdx p i 5) 4=some (.slice p' x.xs.length c')/\∀ w',Ext w w'->FnP Tryz.prog zcg #[av x p' c',f] w' fun v w''=>Ext w' w''/\v=.bool (zwL at_ x):=fun i h0 hi=>by
      obtain ⟨x,p',c',hx,hmem,hIx,hp,hp5,g0,g1,g2,g3,g4⟩:=hT.at h0 (by exact hi)
      have hx:xs[i.toNat]?=some x:=hx
      refine ⟨x,p',c',?_,hp,hp5,g0,g1,g2,g3,g4,fun w' hw'=>ih x hmem p' c' w' (hx0.trans hw') (hIx.ext hw' _ _ _) (hsub x hmem)⟩
      rw [List.getD_eq_getElem?_getD,List.getElem?_map,hx]; rfl
    refine zvt k key val n p xs.length c f w _ fun b0 _=>⟨fun h4=>?_,fun h4=>⟨fun h5=>?_,fun h5=>⟨fun h6=>?_,fun h6 w1 hw1=>?_⟩⟩⟩
    · have hl:xs.length=1:=by rw [hlen]; unfold zfT; rw [if_neg (by omega),if_pos h4]
      obtain ⟨x,p',c',hv,hp,hp5,g0,g1,g2,g3,g4,hF⟩:=sub 0 (by omega) (by omega)
      refine ⟨hp,by omega,by omega,hp5,_,g0,_,g1,_,g2,_,g3,_,_,_,g4,fun w8 h8=>(hF w8 h8).mono fun v w9 ⟨e9,hv'⟩=>⟨e9,_,hv',fun w11 h11=>⟨h11,?_⟩⟩⟩
      rw [if_pos h4,show (0:Nat)=(0:Int).toNat from rfl,hv]
    · have hl:xs.length=2:=by rw [hlen]; unfold zfT; rw [if_pos (.inl h5)]
      obtain ⟨x,p',c',hv,hp,hp5,g0,g1,g2,g3,g4,hF⟩:=sub 0 (by omega) (by omega)
      obtain ⟨y,q',d',hv2,hq,hq5,f0,f1,f2,f3,f4,hG⟩:=sub 1 (by omega) (by omega)
      rw [if_neg h4,if_pos h5,show (0:Nat)=(0:Int).toNat from rfl,hv,show (1:Nat)=(1:Int).toNat from rfl,hv2]
      refine ⟨hp,by omega,by omega,hp5,_,g0,_,g1,_,g2,_,g3,_,_,_,g4,fun w8 h8=>(hF w8 h8).mono fun v w9 ⟨e9,hv'⟩=>⟨e9,_,hv',fun _=>hp,fun _=>by omega,fun _=>by omega,fun ht=>⟨hq5,_,f0,_,f1,_,f2,_,f3,_,_,_,f4,fun w18 h18=>(hG w18 h18).mono fun v w19 ⟨e19,hv''⟩=>⟨e19,_,hv'',fun w21 h21=>⟨h21,by rw [ht]; rfl⟩⟩⟩,fun hf' w11 h11=>⟨h11,by rw [hf']; rfl⟩⟩⟩
    · have hl:xs.length=2:=by rw [hlen]; unfold zfT; rw [if_pos (.inr h6)]
      obtain ⟨x,p',c',hv,hp,hp5,g0,g1,g2,g3,g4,hF⟩:=sub 0 (by omega) (by omega)
      obtain ⟨y,q',d',hv2,hq,hq5,f0,f1,f2,f3,f4,hG⟩:=sub 1 (by omega) (by omega)
      rw [if_neg h4,if_neg h5,if_pos h6,show (0:Nat)=(0:Int).toNat from rfl,hv,show (1:Nat)=(1:Int).toNat from rfl,hv2]
      refine ⟨hp,by omega,by omega,hp5,_,g0,_,g1,_,g2,_,g3,_,_,_,g4,fun w8 h8=>(hF w8 h8).mono fun v w9 ⟨e9,hv'⟩=>⟨e9,_,hv',fun _=>hp,fun _=>by omega,fun _=>by omega,fun ht w11 h11=>⟨h11,by rw [ht]; rfl⟩,fun hf'=>⟨hq5,_,f0,_,f1,_,f2,_,f3,_,_,_,f4,fun w18 h18=>(hG w18 h18).mono fun v w19 ⟨e19,hv''⟩=>⟨e19,_,hv'',fun w21 h21=>⟨h21,by rw [hf']; rfl⟩⟩⟩⟩⟩
    · rw [if_neg h4,if_neg h5,if_neg h6]
      obtain ⟨g,cap,hv,hF⟩:=hf (.mk k key val n xs) p c w1 (hx0.trans hw1) (hT.ext hw1 _ _ _) he (by show k<4; omega)
      exact ⟨g,cap,hv,hF.mono fun v w2 ⟨e2,hv'⟩=>⟨e2,_,hv',fun w4 hw4=>⟨hw4,rfl⟩⟩⟩
structure Lb where
  key:ByteArray
  val:ByteArray
deriving Inhabited
abbrev zsJ (x:Lb):List Value:=[.string x.key,.string x.val]
abbrev Lbs (w:World) (p:Option Addr) (L:List Lb):Prop:=zgt 2 zsJ w p L
structure Ht where
  name:ByteArray
  labels:List Lb
  has:Nd
  used:Nd
deriving Inhabited
abbrev zFq (h:Ht) (p:Option Addr) (c:Nat):List Value:=[.string h.name,.slice p h.labels.length c,.int .i64 h.has.c,.int .i64 h.has.m,.int .i64 h.has.g,.int .i64 h.used.c,.int .i64 h.used.m,.int .i64 h.used.g]
abbrev hv (h:Ht) (p:Option Addr) (c:Nat):Value:=.agg #[.string h.name,.slice p h.labels.length c,.int .i64 h.has.c,.int .i64 h.has.m,.int .i64 h.has.g,.int .i64 h.used.c,.int .i64 h.used.m,.int .i64 h.used.g]
def amt (x:Nd) (key:ByteArray):Int:=if key=zBJ then x.c else if key=memS then x.m else x.g
def atH (h:Ht) (y:AT):Bool:=if y.k=3 then decide (y.n<=amt h.has y.key) else h.labels.any fun l=>decide (l.key=y.key)&&(decide (y.k=1)||decide (l.val=y.val))
theorem zFQ (x:Nd) (key:ByteArray) (w:World):FnP Tryz.prog ziL #[nv x,.string key] w fun v w'=>Ext w w'/\v=.int .i64 (amt x key) :=
  zth x.c x.m x.g key w _ fun b0 _=>⟨fun h w1 h1=>⟨h1,by unfold amt; rw [if_pos (show key=zBJ from h)]⟩,fun h=>⟨fun h2 w1 h1=>⟨h1,by unfold amt; rw [if_neg (show ¬ key=zBJ from h),if_pos (show key=memS from h2)]⟩,fun h2 w1 h1=>⟨h1,by unfold amt; rw [if_neg (show ¬ key=zBJ from h),if_neg (show ¬ key=memS from h2)]⟩⟩⟩
theorem zJs (p:Option Addr) (c:Nat) (L:List Lb) (h63:L.length<=9223372036854775807) (f:Value) (Pr:Lb->Bool) (w:World) (hL:Lbs w p L) (hf:∀ e∈L,∀ w',Ext w w'->zin Tryz.prog f [.agg #[.string e.key,.string e.val]] w' fun v w''=>Ext w' w''/\v=.bool (Pr e)) :
    FnP Tryz.prog zaH #[.slice p L.length c,f] w fun v w'=>Ext w w'/\v=.bool (L.any Pr):=by
  refine zcp p L.length c f w _ fun w0 h0=>?_
  refine FnP.mono (K:=fun v w'=>Ext w0 w'/\∃ t:Int,v=.int .i64 t/\(0<=t↔L.any Pr=true)) ?_ fun v w1 ⟨e1,t,hv,ht⟩=>⟨e1,t,hv,fun w3 h3=>⟨h3,by congr 1; rw [Bool.eq_iff_iff,decide_eq_true_iff]; exact ht⟩⟩
  refine zcN p L.length c f w0 _ ⟨fun k w'=>w'=w0/\0<=k/\k<=L.length/\∀ j:Nat,(j:Int)<k->Pr (L.getD j default)=false,fun k _=>(L.length-k).toNat,⟨rfl,by omega,by omega,fun j hj=>by omega⟩,?_⟩
  rintro k w2 ⟨rfl,hk0,hk1,hno⟩
  refine ⟨fun hlt=>?_,fun hge w3 h3=>⟨h3,-1,rfl,?_⟩⟩
  · have g0:=(hL.ext h0).idx default hk0 hlt (j:=0) rfl
    have g1:=(hL.ext h0).idx default hk0 hlt (j:=1) rfl
    have hm:=zap L default (i:=k.toNat) (by omega)
    refine ⟨fun hq=>zai g0 (zah.2 hq),hk0,hlt,zai g0,_,g0,_,g1,fun w5 h5=>?_⟩
    obtain ⟨fn,cap,hv,hF⟩:=hf _ hm w5 (h0.trans h5)
    refine ⟨fn,cap,hv,hF.mono fun v w6 ⟨e6,hv⟩=>⟨e6,_,hv,fun hy w8 h8=>⟨h8,k,rfl,?_⟩,fun hn=>⟨i64 (by omega),⟨rfl,by omega,by omega,fun j hj=>?_⟩,by simp only []; omega⟩⟩⟩
    · exact ⟨fun _=>List.any_eq_true.2 ⟨_,hm,hy⟩,fun _=>hk0⟩
    · by_cases hjk:(j:Int)<k
      · exact hno j hjk
      · obtain rfl:j=k.toNat:=by omega
        exact hn
  · refine ⟨fun h=>by omega,fun h=>?_⟩
    obtain ⟨e,he,hpe⟩:=List.any_eq_true.1 h
    obtain ⟨i,hi,rfl⟩:=List.getElem_of_mem he
    have:=hno i (by omega)
    simp only [List.getD_eq_getElem?_getD,List.getElem?_eq_getElem hi,Option.getD_some] at this
    rw [this] at hpe; cases hpe
theorem zI1 (t:AT) (p:Option Addr) (c:Nat) (h:Ht) (q:Option Addr) (d:Nat) (hl:h.labels.length<=9223372036854775807) (w:World) (hT:IsT w t p c) (hW:WfA t) (hL:Lbs w q h.labels) :
    FnP Tryz.prog zkl #[av t p c,hv h q d] w fun v w'=>Ext w w'/\v=.tuple #[.bool (if zmh t=0 then zwL (atH h) t else false),.int .i64 (zmh t)]:=by
  refine zvp t.k t.key t.val t.n p t.xs.length c h.name q h.labels.length d h.has.c h.has.m h.has.g h.used.c h.used.m h.used.g w _ fun b0 hb0 w1 x1=>?_
  have h1:=zaa x1
  refine zbG (t:=zdR) (by intro v hv; simp at hv; rcases hv with rfl|rfl|rfl|rfl|rfl|rfl|rfl|rfl<;>rfl) fun w2 o2 e2=>fun w3 h3=>?_
  have c2:=(o2 0 (Nat.zero_le _)).cells
  have x2:=h1.trans e2
  refine (zoS t p c w3 (hT.ext (x2.trans h3) _ _ _) hW).mono fun v w4 ⟨e4,hv⟩=>⟨e4,_,hv,fun hne w6 h6=>⟨x2.trans h6,by rw [if_neg hne]⟩,fun he w6 h6=>?_⟩
  have heA:zeY t=0:=by
    unfold zmh at he
    split at he
    · omega
    · exact he
  refine (zLj (w0:=w2) (at_:=atH h) (fun y py cy wy hwy hTy hey hky=>⟨zhh,#[.pointer (some ⟨w1.heap.size,0,none⟩)],rfl,?_⟩) t p c w6 h6 (hT.ext (x2.trans h6) _ _ _) heA).mono fun v w7 ⟨e7,hv⟩=>⟨e7,_,hv,fun w9 h9=>⟨x2.trans h9,by rw [if_pos he,he]⟩⟩
  have cy':=c2.ext hwy
  have hLy:=hL.ext (x2.trans hwy)
  refine (zqU y.k y.key y.val y.n py y.xs.length cy (some ⟨w1.heap.size,0,none⟩) wy _ fun w0' h0'=>?_:FnP Tryz.prog zhh #[av y py cy,.pointer (some ⟨w1.heap.size,0,none⟩)] wy _)
  refine zbG (t:=zdQ) (by intro v hv; simp at hv; rcases hv with rfl|rfl|rfl|rfl|rfl<;>rfl) fun wa oa ea=>?_
  have ca:=(oa 0 (Nat.zero_le _)).cells
  have hxa:=h0'.trans ea
  have cy2:=cy'.ext hxa
  have A:∀ (i:Nat) u,(zos y py cy)[i]?=some u->Go.Sx.cell wa (pAdd (some ⟨w0'.heap.size,0,none⟩) i) 0=some u:=fun i u hu=>by rw [zam]; exact ca i u hu
  refine ⟨by simp,_,A 0 _ rfl,fun h3'=>⟨by simp,by simp [pAdd],_,by rw [zam]; exact cy2 2 _ rfl,_,by rw [zam]; exact cy2 3 _ rfl,_,by rw [zam]; exact cy2 4 _ rfl,by simp,_,A 1 _ rfl,by simp,_,A 3 _ rfl,fun w8 h8=>?_⟩,fun h3'=>⟨by simp,_,_,_,by rw [zam]; exact cy2 1 _ rfl,fun w6' h6'=>?_⟩⟩
  · refine (zFQ h.has y.key w8).mono fun v w9 ⟨e9,hv⟩=>⟨e9,_,hv,fun w11 h11=>⟨hxa.trans h11,?_⟩⟩
    unfold atH; rw [if_pos h3']
  · refine (zJs q d h.labels hl _ (fun l=>decide (l.key=y.key)&&(decide (y.k=1)||decide (l.val=y.val))) w6' (hLy.ext (hxa.trans h6')) fun e he w' hw'=>⟨zfn,#[.pointer (some ⟨w0'.heap.size,0,none⟩)],rfl,?_⟩).mono fun v w7 ⟨e7,hv⟩=>⟨e7,_,hv,fun w9 h9=>⟨hxa.trans h9,?_⟩⟩
    · have B:∀ (i:Nat) u,(zos y py cy)[i]?=some u->Go.Sx.cell w' (pAdd (some ⟨w0'.heap.size,0,none⟩) i) 0=some u:=fun i u hu=>zaD (h6'.trans hw') (A i u hu)
      show FnP Tryz.prog zfn #[.agg #[.string e.key,.string e.val],.pointer (some ⟨w0'.heap.size,0,none⟩)] w' _
      refine zn4 e.key e.val (some ⟨w0'.heap.size,0,none⟩) w' _ fun b0 _=>⟨by simp,_,B 1 _ rfl,fun _=>by simp,fun hk=>⟨_,B 0 _ rfl,fun _=>by simp,fun h1' w3' h3''=>⟨h3'',?_⟩,fun h1'=>⟨_,B 2 _ rfl,fun w4' h4'=>⟨h4',?_⟩⟩⟩,fun hk w2' h2'=>⟨h2',?_⟩⟩
      · simp [hk,h1']
      · simp [hk,h1']
      · simp [hk]
    · unfold atH; rw [if_neg h3']
abbrev opA (k:Int) (l:List AT):AT:=.mk k emS emS 0 l
theorem zII {k:Int} (hk:0<=k/\k<=100) {l:List AT} (hl:l.length<=100) (h:∀ x∈l,WfA x):WfA (opA k l):=by
  unfold WfA
  exact ⟨i64 (by omega),by decide,by decide,i64 (by omega),by omega,WfL.of h⟩
theorem zxB {w:World} {q:Option Addr}:∀ {l:List (AT×Option Addr×Nat)} {i:Nat},(∀ (j:Nat) u,(l.flatMap fun x=>zos x.1 x.2.1 x.2.2)[j]?=some u->Go.Sx.cell w q (i*5+j)=some u)->(∀ x∈l,IsT w x.1 x.2.1 x.2.2)->IsL w (l.map (·.1)) q i
  |[],i,_,_ => by unfold IsL; trivial
  |x::r,i,h,hT => by
    unfold IsL
    refine ⟨⟨x.2.1,x.2.2,fun j u hu=>h j u ?_,hT x (List.mem_cons_self ..)⟩,zxB (fun j u hu=>?_) fun y hy=>hT y (List.mem_cons_of_mem _ hy)⟩
    · rw [List.flatMap_cons,List.getElem?_append_left]
      · exact hu
      · exact (List.getElem?_eq_some_iff.1 hu).1
    · have:=h (5+j) u (by
        rw [List.flatMap_cons,List.getElem?_append_right (by simp [zos])]
        simpa [zos] using hu)
      rw [show (i+1)*5+j=i*5+(5+j) by omega]
      exact this
theorem zxg {b:Nat} {w0 w w':World} (h:zag [b] [] w w') (he:Ext w0 w) (hb:w0.heap.size<=b):Ext w0 w':=zaw h he (by intro d hd; simp at hd; omega)
abbrev zju:AT:=.mk 0 emS emS 0 []
theorem zo2 {k:Int} {key val:ByteArray} {n:Int} {xs:List AT} (h:zeY (.mk k key val n xs)=0) :
    (k=4/\∃ x,xs=[x]/\zeY x=0)\/((k=5\/k=6)/\∃ x y,xs=[x,y]/\zeY x=0/\zeY y=0)\/(1<=k/\k<4/\xs=[]):=by
  obtain ⟨h1,hsub⟩:=zgZ h
  have h1:zk7 k key val n xs.length=0:=h1
  have hsub:∀ x∈xs,zeY x=0:=hsub
  have hlen:=zsM h1
  have hin:¬ (k<1\/6<k):=fun hb=>by
    unfold zk7 at h1; rw [if_pos hb] at h1; omega
  unfold zfT at hlen
  by_cases h4:k=4
  · rw [if_neg (by omega),if_pos h4] at hlen
    match xs,hlen with
    |[x],_ => exact .inl ⟨h4,x,rfl,hsub x (by simp)⟩
  · by_cases h5:k=5\/k=6
    · rw [if_pos h5] at hlen
      match xs,hlen with
      |[x,y],_ => exact .inr (.inl ⟨h5,x,y,rfl,hsub x (by simp),hsub y (by simp)⟩)
    · rw [if_neg h5,if_neg h4] at hlen
      exact .inr (.inr ⟨by omega,by omega,List.length_eq_zero_iff.1 hlen⟩)
structure GP (w:World):Prop where
  pow : Lib.TabIs Tryz.prog w "internal/strconv.uint64pow10" .u64 Lib.pow10Tab
theorem GP.ext {w w':World} (g:GP w) (e:Ext w w'):GP w':=⟨zER g.pow e⟩
theorem zBR (n:Int) (h:-9223372036854775808<=n/\n<=9223372036854775807) (w:World) (g:GP w):FnP Tryz.prog zbC #[.int .i64 n,.int .i64 10] w fun v w'=>Ext w w'/\v=.string (ofL (Lib.itoa n)) :=
  ⟨fun args w=>Tryz.call90 args w,(Tryz.strconv_FormatInt_10 n h.1 h.2 w g.pow).mono fun e w' ⟨he,k,os,hw⟩=>⟨_,he,by rw [hw]; exact zmu,rfl⟩⟩
mutual
def nod:AT->Nat
  |.mk _ _ _ _ xs => 1+zmM xs
def zmM:List AT->Nat
  |[] => 0
  |x::r => nod x+zmM r
end
mutual
def txt:AT->List UInt8
  |.mk k key val n xs => if k=1 then 63::key.data.toList else if k=2 then key.data.toList++61::val.data.toList else if k=3 then key.data.toList++62::61::Lib.itoa n
    else if k=4 then 33::(zLI xs).headD [] else 40::((zLI xs).getD 0 []++(if k=5 then 38 else 124)::((zLI xs).getD 1 []++[41]))
def zLI:List AT->List (List UInt8)
  |[] => []
  |x::r => txt x::zLI r
end
theorem txt1 (key val:ByteArray) (n:Int) (xs:List AT):txt (.mk 1 key val n xs)=63::key.data.toList:=by rw [txt,if_pos rfl]
theorem txt2 (key val:ByteArray) (n:Int) (xs:List AT):txt (.mk 2 key val n xs)=key.data.toList++61::val.data.toList:=by rw [txt,if_neg (by omega),if_pos rfl]
theorem txt3 (key val:ByteArray) (n:Int) (xs:List AT):txt (.mk 3 key val n xs)=key.data.toList++62::61::Lib.itoa n:=by rw [txt,if_neg (by omega),if_neg (by omega),if_pos rfl]
theorem txt4 (key val:ByteArray) (n:Int) (x:AT):txt (.mk 4 key val n [x])=33::txt x:=by rw [txt,if_neg (by omega),if_neg (by omega),if_neg (by omega),if_pos rfl]; simp [zLI]
theorem zLe {k:Int} (hk:k=5\/k=6) (key val:ByteArray) (n:Int) (x y:AT):txt (.mk k key val n [x,y])=40::(txt x++(if k=5 then 38 else 124)::(txt y++[41])):=by
  rw [txt,if_neg (by omega),if_neg (by omega),if_neg (by omega),if_neg (by omega)]; simp [zLI]
theorem zcZ {s:ByteArray} (h:lbB s=true):0<s.size/\s.size<=20:=by
  unfold lbB at h
  simp only [Bool.and_eq_true,decide_eq_true_eq] at h
  exact h.1.1.1
theorem ztP {s:ByteArray} (h:unB s=true):s.size=3:=by
  unfold unB at h
  simp only [Bool.or_eq_true,decide_eq_true_eq] at h
  rcases h with (h|h)|h<;>(rw [h]; rfl)
theorem zw0 {k:Int} {key val:ByteArray} {n:Int} {xs:List AT} (h:zeY (.mk k key val n xs)=0) (hk:k<4) :
    (k=1/\lbB key=true/\val=emS/\n=0)\/(k=2/\lbB key=true/\lbB val=true/\n=0)\/(k=3/\unB key=true/\val=emS/\0<=n/\n<=1099511627776):=by
  obtain ⟨h1,_⟩:=zgZ h
  have h1:zk7 k key val n xs.length=0:=h1
  unfold zk7 at h1
  split at h1
  · omega
  rename_i a1
  split at h1
  · omega
  split at h1
  · omega
  rename_i a3
  split at h1
  · omega
  rename_i a4
  split at h1
  · omega
  rename_i a5
  have hk3:k=1\/k=2\/k=3:=by omega
  rcases hk3 with rfl|rfl|rfl
  · refine .inl ⟨rfl,?_,?_,?_⟩
    · cases hb:lbB key with
      |true => rfl
      |false => exact absurd (.inr (.inl ⟨.inl rfl,hb⟩)) a4
    · exact Classical.byContradiction fun hv=>a3 (.inr (.inl ⟨by omega,hv⟩))
    · exact Classical.byContradiction fun hv=>a3 (.inr (.inr ⟨by omega,hv⟩))
  · refine .inr (.inl ⟨rfl,?_,?_,?_⟩)
    · cases hb:lbB key with
      |true => rfl
      |false => exact absurd (.inr (.inl ⟨.inr rfl,hb⟩)) a4
    · cases hb:lbB val with
      |true => rfl
      |false => exact absurd (.inr (.inr ⟨rfl,hb⟩)) a4
    · exact Classical.byContradiction fun hv=>a3 (.inr (.inr ⟨by omega,hv⟩))
  · refine .inr (.inr ⟨rfl,?_,?_,by omega,by omega⟩)
    · cases hb:unB key with
      |true => rfl
      |false => exact absurd (.inl ⟨rfl,hb⟩) a4
    · exact Classical.byContradiction fun hv=>a3 (.inr (.inl ⟨by omega,hv⟩))
theorem zo4 (s:ByteArray):s.data.toList.length=s.size:=by simp
theorem ztO:∀ t:AT,zeY t=0->(txt t).length<=50*nod t:=by
  intro t
  induction t using AT.ind with
  |h k key val n xs ih =>
    intro h
    rcases zo2 h with ⟨rfl,x,rfl,hx⟩|⟨hk,x,y,rfl,hx,hy⟩|⟨hk1,hk4,rfl⟩
    · have:=ih x (by simp) hx
      rw [txt4]
      simp only [nod,zmM,List.length_cons]; omega
    · have h1:=ih x (by simp) hx
      have h2:=ih y (by simp) hy
      rw [zLe hk]
      simp only [nod,zmM,List.length_cons,List.length_append,List.length_nil]; omega
    · rcases zw0 h hk4 with ⟨rfl,a,b,c⟩|⟨rfl,a,b,c⟩|⟨rfl,a,b,c,d⟩
      · have:=zcZ a
        rw [txt1]; simp only [nod,zmM,List.length_cons,zo4]; omega
      · have h1:=zcZ a
        have h2:=zcZ b
        rw [txt2]; simp only [nod,zmM,List.length_cons,List.length_append,zo4]; omega
      · have h1:=ztP a
        have h2:=Lib.itoa_length_le n (by omega) (by omega)
        rw [txt3]; simp only [nod,zmM,List.length_cons,List.length_append,zo4]; omega
theorem text_k:∀ (t:AT) (p:Option Addr) (c:Nat) (w:World),IsT w t p c->zeY t=0->nod t<=1099511627776->GP w->FnP Tryz.prog zdx #[av t p c] w fun v w'=>Ext w w'/\v=.string (ofL (txt t)):=by
  intro t
  induction t using AT.ind with
  |h k key val n xs ih =>
    intro p c w hT h hN g
    refine zxP k key val n p xs.length c w _ fun b0 _=>?_
    rcases zo2 h with ⟨rfl,x,rfl,hx⟩|⟨hk,x,y,rfl,hx,hy⟩|⟨hk1,hk4,rfl⟩
    · obtain ⟨x',p',c',e1,_,hT',np,np5,g0,g1,g2,g3,g4⟩:=hT.at (k:=0) (by omega) (by show (0:Int)<((1:Nat):Int); omega)
      have:x'=x:=by have h':[x][0]?=some x':=e1; simpa using h'.symm
      subst this
      have hn:nod x'<=1099511627776:=by simp only [nod,zmM] at hN; omega
      have hl:=ztO x' hx
      refine ⟨fun h=>by omega,fun _=>⟨fun h=>by omega,fun _=>⟨fun h=>by omega,fun _=>⟨fun _=>⟨np,by omega,by simp,np5,_,g0,_,g1,_,g2,_,g3,_,_,_,g4,fun w8 h8=>(ih x' (by simp) p' c' w8 (hT'.ext h8) hx hn (g.ext h8)).mono fun v w9 ⟨e9,hv⟩=>⟨e9,_,hv,?_,fun w11 h11=>⟨h11,?_⟩⟩⟩,fun h=>absurd rfl h⟩⟩⟩⟩
      · unfold zdl; rw [zat]; show 1+_<=_; omega
      · rw [txt4,<- zb9 ((⟨#[33]⟩:ByteArray)++_),zgY]; rfl
    · obtain ⟨x',p',c',e1,_,hT',np,np5,g0,g1,g2,g3,g4⟩:=hT.at (k:=0) (by omega) (by show (0:Int)<((2:Nat):Int); omega)
      have:x'=x:=by have h':[x,y][0]?=some x':=e1; simpa using h'.symm
      subst this
      obtain ⟨y',p2,c2,e2,_,hT2,np2,np52,q0,q1,q2,q3,q4⟩:=hT.at (k:=1) (by omega) (by show (1:Int)<((2:Nat):Int); omega)
      have:y'=y:=by have h':[x',y][1]?=some y':=e2; simpa using h'.symm
      subst this
      have hn1:nod x'<=1099511627776:=by simp only [nod,zmM] at hN; omega
      have hn2:nod y'<=1099511627776:=by simp only [nod,zmM] at hN; omega
      have hl1:=ztO x' hx
      have hl2:=ztO y' hy
      have hcat:∀ m:UInt8,(((((⟨#[40]⟩:ByteArray)++ofL (txt x'))++(⟨#[m]⟩:ByteArray))++ofL (txt y'))++(⟨#[41]⟩:ByteArray))=ofL (40::(txt x'++m::(txt y'++[41]))):=fun m=>by
        rw [<- zb9 (((((⟨#[40]⟩:ByteArray)++ofL (txt x'))++(⟨#[m]⟩:ByteArray))++ofL (txt y'))++(⟨#[41]⟩:ByteArray)),zgY,zgY,zgY,zgY]
        simp [ofL]
      have s1:∀ m:UInt8,(⟨#[m]⟩:ByteArray).size=1:=fun _=>rfl
      refine ⟨fun h=>by omega,fun _=>⟨fun h=>by omega,fun _=>⟨fun h=>by omega,fun _=>⟨fun h=>by omega,fun _=>⟨fun h5=>?_,fun h5=>?_⟩⟩⟩⟩⟩
      all_goals refine ⟨np,by omega,by simp,np5,_,g0,_,g1,_,g2,_,g3,_,_,_,g4,np,by omega,by simp,np52,_,q0,_,q1,_,q2,_,q3,_,_,_,q4,fun w15 h15=>(ih x' (by simp) p' c' w15 (hT'.ext h15) hx hn1 (g.ext h15)).mono fun v w16 ⟨e16,hv⟩=>⟨e16,_,hv,?_,?_,fun w18 h18=>(ih y' (by simp) p2 c2 w18 (hT2.ext h18) hy hn2 (g.ext h18)).mono fun v w19 ⟨e19,hv⟩=>⟨e19,_,hv,?_,?_,fun w21 h21=>⟨h21,?_⟩⟩⟩⟩
      all_goals first
        |(rw [hcat,zLe hk]; simp [h5])
        |(unfold zdl; simp only [ByteArray.size_append,s1,zat]; omega)
    · rcases zw0 h hk4 with ⟨rfl,a,b,c'⟩|⟨rfl,a,b,c'⟩|⟨rfl,a,b,c',d⟩
      · have hs:=zcZ a
        refine ⟨fun _=>⟨?_,fun w1 h1=>⟨h1,?_⟩⟩,fun h=>absurd rfl h⟩
        · unfold zdl; show 1+_<=_; omega
        · rw [txt1,<- zb9 ((⟨#[63]⟩:ByteArray)++_),zgY]; rfl
      · have hs:=zcZ a
        have hs2:=zcZ b
        refine ⟨fun h=>by omega,fun _=>⟨fun _=>⟨?_,?_,fun w1 h1=>⟨h1,?_⟩⟩,fun h=>absurd rfl h⟩⟩
        · unfold zdl; show _+1<=_; omega
        · unfold zdl; rw [ByteArray.size_append]; show _+1+_<=_; omega
        · rw [txt2,<- zb9 ((key++(⟨#[61]⟩:ByteArray))++val),zgY,zgY]; simp
      · have hs:=ztP a
        have hil:=Lib.itoa_length_le n (by omega) (by omega)
        refine ⟨fun h=>by omega,fun _=>⟨fun h=>by omega,fun _=>⟨fun _=>⟨?_,fun w1 h1=>(zBR n (by omega) w1 (g.ext h1)).mono fun v w2 ⟨e2,hv⟩=>⟨e2,_,hv,?_,fun w4 h4=>⟨h4,?_⟩⟩⟩,fun h=>absurd rfl h⟩⟩⟩
        · unfold zdl; show _+2<=_; omega
        · unfold zdl; rw [ByteArray.size_append,zat]; show _+2+_<=_; omega
        · rw [txt3,<- zb9 ((key++(⟨#[62,61]⟩:ByteArray))++_),zgY,zgY]; simp [ofL]
end Go.Proofs.YtcceeahmcecbnaaGreatDoor
namespace Go.Proofs
open Go.Shelf Go.RowKit Go.Lib
variable {P:Program} {ρ:Ren}
theorem zun (w:World) (n:Nat):Below w.heap.size w (w.drewN n):=⟨rfl,rfl,rfl,Nat.le_refl _,fun _ _=>rfl⟩
theorem zuT {l:List UInt8} {x:UInt8} (h:∀ y∈l,y≠x):Lib.indexByte l x=-1:=by
  have hcon:=Lib.contains_iff_indexByte l x
  have:l.contains x=false:=by
    cases hc:l.contains x with
    |false => rfl
    |true => exact absurd rfl (h x (by simpa using hc))
  rw [this] at hcon
  have h2:=of_decide_eq_false hcon.symm
  have h3:=Lib.indexByte_ge l x
  omega
set_option maxHeartbeats 4000000 in
set_option maxRecDepth 1000000 in
theorem Any.IndexRune_err (L:Lays.n152 P ρ) (s:ByteArray) (w:World) (hascii:∀ (j:Nat) b,s.data.toList[j]?=some b->b.toNat<128) :
    Calls P (ρ.f 152) #[.string s,.int .i32 65533] w fun e w'=>e=.returned (.int .i64 (-1))/\Below w.heap.size w w':=by
  have HA:Aside (∀ (j:Nat) b,s.data.toList[j]?=some b->b.toNat<128):=hascii
  clear hascii
  have t3:=L.t3; have a3:=L.a3; have z3:=L.z3; have v3:=L.v3
  have t4:=L.t4; have a4:=L.a4; have z4:=L.z4; have v4:=L.v4
  have t5:=L.t5; have a5:=L.a5; have z5:=L.z5; have v5:=L.v5
  have t9:=L.t9; have a9:=L.a9; have z9:=L.z9; have v9:=L.v9
  have t21:=L.t21; have a21:=L.a21; have z21:=L.z21; have v21:=L.v21
  have e137:∀ args w,(callFunc (ρ.f 137) args).run P w=.ok (.enter (ρ.f 137) args) w:=enters_of L.f137 (by kernel_rfl) rfl
  go_enter L.f152,Body.n152_ntmps ρ
  go_wp2
  go_loopg [5,6] s.size (fun g _ _ wx=>∃ i:Nat,i+g=s.size/\wx=w.iter s i)
  case atStart=>exact ⟨0,by omega,rfl⟩
  case round =>
    obtain ⟨i,hig,rfl⟩:=hrel
    cases gk with
    |zero =>
      obtain rfl:i=s.size:=by omega
      have hnx:=run_next_end (P:=P) w s s.size
      go_wp2
      go_ret
      exact ⟨rfl,(Below.refl w.heap.size w).alloc (Nat.le_refl _) _⟩
    |succ g =>
      have hi:i<s.size:=by omega
      obtain ⟨x,hx⟩:∃ x:UInt8,s[i]'hi=x:=⟨_,rfl⟩
      have hxl:s.data.toList[i]?=some x:=by rw [<- hx]; exact Lib.data_getElem? s i hi
      have hx128:x.toNat<128:=HA.out i x hxl
      have hnx:=fun ty=>run_next_ascii (P:=P) w s i ty hi (by rw [hx]; exact hx128)
      rw [hx] at hnx
      have hne:((x.toNat:Int)==65533)=false:=beq_eq_false_iff_ne.2 (by omega)
      clear hxl hx
      go_wp2
      go_roundg g
      case measure=>omega
      case rel=>exact ⟨i+1,by omega,rfl⟩
set_option maxHeartbeats 8000000 in
set_option maxRecDepth 1000000 in
theorem Any.IndexRune_high (L:Lays.n152 P ρ) (s:ByteArray) (r:Int) (w:World) (hr:128<=r) (hne:r≠65533) (hascii:∀ (j:Nat) b,s.data.toList[j]?=some b->b.toNat<128) :
    Calls P (ρ.f 152) #[.string s,.int .i32 r] w fun e w'=>e=.returned (.int .i64 (-1))/\Below w.heap.size w w':=by
  have HA:Aside (∀ (j:Nat) b,s.data.toList[j]?=some b->b.toNat<128):=hascii
  clear hascii
  have t3:=L.t3; have a3:=L.a3; have z3:=L.z3; have v3:=L.v3
  have t4:=L.t4; have a4:=L.a4; have z4:=L.z4; have v4:=L.v4
  have t5:=L.t5; have a5:=L.a5; have z5:=L.z5; have v5:=L.v5
  have t9:=L.t9; have a9:=L.a9; have z9:=L.z9; have v9:=L.v9
  have t21:=L.t21; have a21:=L.a21; have z21:=L.z21; have v21:=L.v21
  have e137:∀ args w,(callFunc (ρ.f 137) args).run P w=.ok (.enter (ρ.f 137) args) w:=enters_of L.f137 (by kernel_rfl) rfl
  have e119:∀ args w,(callFunc (ρ.f 119) args).run P w=.ok (.enter (ρ.f 119) args) w:=enters_of L.f119 (by kernel_rfl) rfl
  have h1:decide (r<128)=false:=decide_eq_false (by omega)
  have h2:(r==65533)=false:=beq_eq_false_iff_ne.2 hne
  go_enter L.f152,Body.n152_ntmps ρ
  cases hv:Lib.validRune r with
  |false =>
    go_wp2_with (go_at_fn (ρ.f 119); refine (Any.utf8_ValidRune { L with } _ _).mono ?_; rintro e w' ⟨rfl,hw⟩; rw [hw,hv])
    go_ret
    exact ⟨rfl,Below.refl _ _⟩
  |true =>
    go_wp2_with (go_at_fn (ρ.f 119); refine (Any.utf8_ValidRune { L with } _ _).mono ?_; rintro e w' ⟨rfl,hw⟩; rw [hw,hv])
    obtain ⟨he2,he4,hlast⟩:=encode_facts r (by rw [validRune_eq]; exact hv) hr
    generalize hgE:Utf8.encode r=E at he2 he4 hlast
    have HL:Aside (∀ h:E.size-1<E.size,128<=(E[E.size-1]'h).toNat):=hlast
    clear hlast
    have hw1:wrap64 ((E.size:Int)-1)=(E.size:Int)-1:=by
      simp only [wrap64]; omega
    go_step3
    go_wp2
    go_loopg [9] 1 (fun g s9 wx=>s9=.int .i64 ((E.size:Int)-1)/\wx=w)
    case atStart=>exact ⟨rfl,rfl⟩
    case round =>
      obtain ⟨rfl,rfl⟩:=hrel
      by_cases hlt:E.size-1<s.size
      · have hd:decide ((E.size:Int)-1<(s.size:Int))=true:=decide_eq_true (by omega)
        have mixed:=L.mixed
        obtain ⟨x,hx⟩:∃ x:UInt8,s[E.size-1]'hlt=x:=⟨_,rfl⟩
        obtain ⟨y,hy⟩:∃ y:UInt8,E[E.size-1]'(by omega)=y:=⟨_,rfl⟩
        have hx128:x.toNat<128:=by rw [<- hx]; exact HA.out (E.size-1) _ (Lib.data_getElem? s (E.size-1) hlt)
        have hy128:128<=y.toNat:=by rw [<- hy]; exact HL.out _
        have hix:∀ w,(Instr.index (ρ.t 9) (.string s) (.int .i64 ((E.size:Int)-1))).run P w=.ok (.int .u8 x.toNat) w:=fun w=>by
          rw [run_index_string (h:=t9),dif_pos ⟨by omega,by omega⟩]
          simp only [show ((E.size:Int)-1).toNat=E.size-1 by omega,hx]
        have hiy:∀ w,(Instr.index (ρ.t 9) (.string E) (.int .i64 ((E.size:Int)-1))).run P w=.ok (.int .u8 y.toNat) w:=fun w=>by
          rw [run_index_string (h:=t9),dif_pos ⟨by omega,by omega⟩]
          simp only [show ((E.size:Int)-1).toNat=E.size-1 by omega,hy]
        have hne2:((x.toNat:Int)==(y.toNat:Int))=false:=beq_eq_false_iff_ne.2 (by omega)
        clear hx hy
        go_wp2
        go_step3
        go_wp2
        have hw2:IntKind.i64.wrap (E.size:Int)=(E.size:Int):=wrap_small _ (by omega) (by omega)
        have hsl:∀ w,(Instr.slice (ρ.t 9) (.string s) (some (.int .i64 (E.size:Int))) none none).run P w=.ok (.string (s.extract E.size s.size)) w:=fun w=>by
          rw [run_slice_string_l (ht:=t9) (h0:=by omega) (h1:=by omega)]; simp
        have hib:Lib.indexByte (s.extract E.size s.size).data.toList y=-1:=zuT fun z hz=>by
          have hz':=mem_extract hz
          obtain ⟨j,hj⟩:=List.getElem?_of_mem hz'
          have:=HA.out j z hj
          intro e; subst e; omega
        have hIB:∀ (w:World) n,Calls P (ρ.f 137) #[.string (s.extract E.size s.size),.int .u8 y.toNat] (w.drewN n) fun e w'=>e=.returned (.int .i64 (-1))/\w'=w.drewN n:=fun w n=>(Any.strings_IndexByte { L with } _ _ _).mono fun e w' ⟨he,hw⟩=>⟨by rw [he,show ((y.toNat:Int)).toNat.toUInt8=y by simp,hib],hw⟩
        go_quiet_o (fail)
        go_wp2
        go_quiet_o (first|(go_at_fn (ρ.f 137); exact (hIB _ _).mono fun e w' ⟨h1,h2⟩=>⟨h1,_,h2⟩))
        go_wp2
        rw [Exit.noGoto_ret]
        simp only [Exit.inBlock,Exit.then]
        rw [Exit.noGoto_ret]
        go_ret
        exact ⟨rfl,zun _ _⟩
      · have hd:decide ((E.size:Int)-1<(s.size:Int))=false:=decide_eq_false (by omega)
        go_wp2
        rw [Exit.noGoto_ret]
        go_ret
        exact ⟨rfl,Below.refl _ _⟩
theorem Any.IndexRune_any (L:Lays.n152 P ρ) (s:ByteArray) (r:Int) (w:World) (h0:0<=r) (hascii:∀ (j:Nat) b,s.data.toList[j]?=some b->b.toNat<128) :
    Calls P (ρ.f 152) #[.string s,.int .i32 r] w fun e w'=>∃ n:Int,e=.returned (.int .i64 n)/\Below w.heap.size w w':=by
  by_cases h1:r<128
  · exact (Any.strings_IndexRune_ascii L s r w h0 h1).mono fun e w' ⟨he,hw⟩=>⟨_,he,hw▸Below.refl _ _⟩
  by_cases h2:r=65533
  · subst h2
    exact (Any.IndexRune_err L s w hascii).mono fun e w' ⟨he,hw⟩=>⟨_,he,hw⟩
  · exact (Any.IndexRune_high L s r w (by omega) h2 hascii).mono fun e w' ⟨he,hw⟩=>⟨_,he,hw⟩
theorem zAQ (s:ByteArray) (pos:Nat) (h:pos<s.size):1<=(Utf8.decode s pos).2:=by
  by_cases ha:(s[pos]'h).toNat<128
  · rw [decode_ascii s pos h ha]; exact Nat.le_refl 1
  · exact (decode_high s pos h (by omega)).2
set_option maxHeartbeats 8000000 in
set_option maxRecDepth 1000000 in
theorem Any.IndexAny_short_any (L:Lays.n153 P ρ) (s chars:ByteArray) (w:World) (h2:2<=chars.size) (h8:s.size<=8) (hascii:∀ (j:Nat) b,chars.data.toList[j]?=some b->b.toNat<128) :
    Calls P (ρ.f 153) #[.string s,.string chars] w fun e w'=>∃ n:Int,e=.returned (.int .i64 n)/\n<s.size/\Below w.heap.size w w':=by
  have HA:Aside (∀ (j:Nat) b,chars.data.toList[j]?=some b->b.toNat<128):=hascii
  clear hascii
  have hemp:chars.toList.isEmpty=false:=by
    rw [Lib.toList_data]
    cases h:chars.data.toList with
    |nil => have:=Lib.size_eq chars; rw [h,List.length_nil] at this; omega
    |cons _ _ => rfl
  have hn1:((chars.size:Int)==1)=false:=beq_eq_false_iff_ne.2 (by omega)
  have h8z:decide ((8:Int)<(s.size:Int))=false:=decide_eq_false (by omega)
  have t3:=L.t3; have a3:=L.a3; have z3:=L.z3; have v3:=L.v3
  have t4:=L.t4; have a4:=L.a4; have z4:=L.z4; have v4:=L.v4
  have t5:=L.t5; have a5:=L.a5; have z5:=L.z5; have v5:=L.v5
  have t9:=L.t9; have a9:=L.a9; have z9:=L.z9; have v9:=L.v9
  have t21:=L.t21; have a21:=L.a21; have z21:=L.z21; have v21:=L.v21
  have e152:∀ args w,(callFunc (ρ.f 152) args).run P w=.ok (.enter (ρ.f 152) args) w:=enters_of L.f152 (by kernel_rfl) rfl
  have e226:∀ args w,(callFunc (ρ.f 226) args).run P w=.ok (.enter (ρ.f 226) args) w:=enters_of L.f226 (by kernel_rfl) rfl
  go_enter L.f153,Body.n153_ntmps ρ
  go_wp2_with (go_at_fn (ρ.f 226); refine (Any.strings_shouldUseASCIISet { L with } _ _).mono ?_; rintro e w' ⟨rfl,hw⟩; rw [hw,h8z])
  go_loopg [9,10] s.size (fun g _ _ wx=>∃ i:Nat,s.size-i<=g/\wx.heap[w.heap.size]?=some (.stringIter s i)/\Below w.heap.size w wx)
  case atStart=>exact ⟨0,Nat.sub_le _ _,World.iter_heap _ _ _,(Below.refl _ w).alloc (Nat.le_refl _) _⟩
  case round =>
    obtain ⟨i,hig,hk,hB⟩:=hrel
    have HB:Aside (Below w.heap.size w wr):=hB
    have HK:Aside (wr.heap[w.heap.size]?=some (.stringIter s i)):=hk
    clear hB
    cases gk with
    |zero =>
      have hnx:=fun ty=>run_next_end_at (P:=P) wr w.heap.size s i ty hk (by omega)
      clear hk
      go_wp2
      go_ret
      exact ⟨_,rfl,by omega,HB.out⟩
    |succ g =>
      by_cases hi:i<s.size
      · have hnx:=fun ty=>run_next_any_at (P:=P) wr w.heap.size s i ty hk hi
        have hd:=zAQ s i hi
        generalize hdd:Utf8.decode s i=d at hnx hd
        clear hdd hk
        go_wp2_with (go_at_fn (ρ.f 152); refine (Any.IndexRune_any { L with } _ _ _ (by omega) HA.out).mono ?_; rintro e w' ⟨n,rfl,hw⟩)
        · go_ret
          exact ⟨_,rfl,by omega,(below_iterAt HB.out (Nat.le_refl _) s _).trans (hw.mono (by rw [iterAt_size]; exact HB.out.size))⟩
        · go_roundg g
          case measure=>omega
          case rel =>
            refine ⟨i+d.2,by omega,?_,(below_iterAt HB.out (Nat.le_refl _) s _).trans (hw.mono (by rw [iterAt_size]; exact HB.out.size))⟩
            rw [hw.block _ (by rw [iterAt_size]; exact (Array.getElem?_eq_some_iff.1 HK.out).1)]
            exact iterAt_heap wr w.heap.size s i _ HK.out
      · have hnx:=fun ty=>run_next_end_at (P:=P) wr w.heap.size s i ty hk (by omega)
        clear hk
        go_wp2
        go_ret
        exact ⟨_,rfl,by omega,HB.out⟩
theorem zpv (chars:List UInt8):∀ l:List UInt8,Lib.indexAny l chars<l.length
  |[] => by show (-1:Int)<_; simp
  |b::l => by
    have ih:=zpv chars l
    unfold Lib.indexAny
    simp only [List.length_cons]
    split
    · omega
    · split
      · omega
      · omega
theorem Any.IndexAny_any (L:Lays.n153 P ρ) (h116:(P.info? (ρ.t 116)).map (fun i=>(i.zero,i.size))=some (some (.agg (Array.replicate 256 (.bool false))),256)) (s chars:ByteArray) (w:World) (h2:2<=chars.size) (hs:s.size<4294967281) (hcs:chars.size<4294967281) (hac:∀ (j:Nat) b,chars.data.toList[j]?=some b->b.toNat<128) :
    Calls P (ρ.f 153) #[.string s,.string chars] w fun e w'=>(∃ n:Int,e=.returned (.int .i64 n)/\n<s.size/\((∀ (j:Nat) b,s.data.toList[j]?=some b->b.toNat<128)->n=Lib.indexAny s.data.toList chars.data.toList))/\Below w.heap.size w w':=by
  have hlt:Lib.indexAny s.data.toList chars.data.toList<s.size:=by have:=zpv chars.data.toList s.data.toList; rw [<- Lib.size_eq] at this; exact this
  by_cases h8:s.size<=8
  · by_cases has:∀ (j:Nat) b,s.data.toList[j]?=some b->b.toNat<128
    · exact (Any.strings_IndexAny_laid L h116 s chars w hs hcs has hac).mono fun e w' ⟨he,hb⟩=>⟨⟨_,he,hlt,fun _=>rfl⟩,hb⟩
    · exact (Any.IndexAny_short_any L s chars w h2 h8 hac).mono fun e w' ⟨n,he,hn,hb⟩=>⟨⟨n,he,hn,fun h=>absurd h has⟩,hb⟩
  · refine (Any.strings_IndexAny_long L (zero_of_info h116).1 (zero_of_info h116).2 s chars w h2 (by omega) hs hcs hac).mono fun e w' ⟨he,hw⟩=>⟨⟨_,he,hlt,fun _=>rfl⟩,?_⟩
    rw [hw]
    exact ((Below.refl _ _).alloc (Nat.le_refl _) _).alloc (by simp) _
end Go.Proofs
namespace Go.Proofs.YtcceeahmcecbnaaGreatDoor
open Go.Sx Go.RowKit
def sgs:List UInt8:=[63,61,62,33,40,41,38,124]
def sep (l:List UInt8):Prop:=l=[]\/∃ x r,l=x::r/\x∈sgs
theorem zfe {x:UInt8} {r:List UInt8} (h:x∈sgs):sep (x::r):=.inr ⟨x,r,rfl,h⟩
def asc (l:List UInt8):Prop:=∀ b∈l,b.toNat<128
theorem asc_at {l:List UInt8}:asc l↔∀ (j:Nat) b,l[j]?=some b->b.toNat<128 :=
  ⟨fun h j b hb=>h b (List.mem_of_getElem? hb),fun h b hb=>by obtain ⟨j,hj⟩:=List.getElem?_of_mem hb; exact h j b hj⟩
theorem zIa {a b:List UInt8} (ha:∀ x∈a,x∉sgs) (hb:sep b):(b=[]/\Lib.indexAny (a++b) sgs=-1)\/(b≠[]/\Lib.indexAny (a++b) sgs=a.length):=by
  have hno:∀ j,j<=a.length->Lib.NoAny (a++b) sgs j:=fun j hj i x hi hx=>by
    rw [List.getElem?_append_left (by omega)] at hx
    have:=ha x (List.mem_of_getElem? hx)
    simpa using this
  rcases hb with rfl|⟨x,r,rfl,hx⟩
  · exact .inl ⟨rfl,Lib.indexAny_none (by rw [List.append_nil] at hno ⊢; exact hno _ (Nat.le_refl _))⟩
  · exact .inr ⟨by simp,Lib.indexAny_hit (x:=x) (hno _ (Nat.le_refl _)) (by simp) (by simpa using hx)⟩
theorem zAz (s:ByteArray) (hs:s.size<=2000) (w:World):FnP Tryz.prog zf6 #[.string s,.string (⟨#[63,61,62,33,40,41,38,124]⟩:ByteArray)] w fun v w'=>Ext w w'/\∃ n:Int,v=.int .i64 n/\n<s.size/\(asc s.data.toList->n=Lib.indexAny s.data.toList sgs) :=
  ⟨fun args w=>Tryz.call275 args w,(Any.IndexAny_any Tryz.lays153 (by kernel_rfl) s _ w (by decide) (by omega) (by decide) (by
    intro j b hb
    have:b∈sgs:=List.mem_of_getElem? hb
    have key:∀ b∈sgs,b.toNat<128:=by decide
    exact key b this)).mono fun e w' ⟨⟨n,he,hn,hv⟩,hb⟩=>⟨_,he,hb,n,rfl,hn,fun h=>hv (asc_at.1 h)⟩⟩
abbrev RD (B:Nat) (w:World) (rb:Nat) (l:List UInt8) (left:Nat):Prop:=Own B w zuf 2 (some ⟨rb,0,none⟩) 1 1 [.string (ofL l),.int .i64 left]
abbrev rp (rb:Nat):Value:=.pointer (some ⟨rb,0,none⟩)
theorem RD.lt {B:Nat} {w:World} {rb:Nat} {l:List UInt8} {left:Nat} (o:RD B w rb l left):rb<w.heap.size:=Own.size_lt o
theorem RD.cells {B:Nat} {w:World} {rb:Nat} {l:List UInt8} {left:Nat} (o:RD B w rb l left):cell w (pAdd (some ⟨rb,0,none⟩) 0) 0=some (.string (ofL l))/\cell w (pAdd (some ⟨rb,0,none⟩) 1) 0=some (.int .i64 left):=by
  have h0:cell w (some ⟨rb,0,none⟩) 0=some (.string (ofL l)):=Own.cells o 0 _ rfl
  have h1:cell w (some ⟨rb,0,none⟩) 1=some (.int .i64 left):=Own.cells o 1 _ rfl
  exact ⟨by rw [zam]; exact h0,by rw [zam]; exact h1⟩
theorem RD.fr {B:Nat} {w w':World} {rb:Nat} {l:List UInt8} {left:Nat} {S:Nat->Prop} (o:RD B w rb l left) (k:Fr S w w') (h:¬ S rb):RD B w' rb l left:=Own.fr o k fun a ha=>by obtain rfl:=Option.some.inj ha; exact h
theorem RD.put {B:Nat} {w:World} {rb:Nat} {l m:List UInt8} {left:Nat} (o:RD B w rb l left) {t:ByteArray} (ht:t=ofL m) {K:World->Prop} (hk:∀ w',RD B w' rb m left->Fr (·=rb) w w'->K w'):zao w (pAdd (some ⟨rb,0,none⟩) 0) [.string t] [] K :=
  zaZ (off:=0) o rfl (by simp) (by simp) (by intro v hv; simp at hv; subst hv; rfl) (by simp) fun w' o' g=>hk w' (by subst ht; exact o') (zaR g fun a ha=>by obtain rfl:=Option.some.inj ha; rfl)
theorem RD.left {B:Nat} {w:World} {rb:Nat} {l:List UInt8} {left:Nat} {b0:Nat} (o:RD B w rb l left) (hb:b0≠rb) {x:Int} {m:Nat} (hx:x=m) {K:World->Prop} (hk:∀ w',RD B w' rb l m->Fr (·=rb) w w'->K w'):zao w (pAdd (some ⟨rb,0,none⟩) 1) [.int .i64 x] [b0] K :=
  zaZ (off:=1) o rfl (by simp) (by simp) (by intro v hv; simp at hv; subst hv; rfl) (by intro b hb' y hy hh; simp at hb'; subst hb'; obtain rfl:=Option.some.inj hy; exact hb hh.symm) fun w' o' g=>hk w' (by subst hx; exact o') (zaR g fun a ha=>by obtain rfl:=Option.some.inj ha; rfl)
theorem zki {B:Nat} {w:World} {rb:Nat} {l:List UInt8} {left:Nat} (o:RD B w rb l left) (hl:l.length<=2000) (c:UInt8) (ci:Int) (hc:ci=c.toNat) :
    FnP Tryz.prog zaf #[rp rb,.int .u8 ci] w fun v w'=>Fr (·=rb) w w'/\((∃ r,l=c::r/\v=.bool true/\RD B w' rb r left)\/((∀ r,l≠c::r)/\v=.bool false/\RD B w' rb l left)):=by
  subst hc
  obtain ⟨g0,_⟩:=o.cells
  cases l with
  |nil =>
    refine zgi _ _ w _ ⟨by simp,by simp,_,g0,fun _=>by simp,fun _=>by simp,fun _ w1 h1=>⟨zad h1,.inr ⟨fun r=>by simp,rfl,Own.ext o h1⟩⟩,fun h=>absurd rfl h⟩
  |cons x r =>
    have hx:sAt (ofL (x::r)) 0=(x.toNat:Int):=rfl
    refine zgi _ _ w _ ⟨by simp,by simp,_,g0,fun _=>by simp,fun _=>by simp,fun h=>absurd h (by intro h; have:=congrArg (fun s:ByteArray=>s.data.toList) h; simp [ofL] at this),fun _=>⟨_,g0,Int.le_refl _,by rw [zat]; simp,fun hne w2 h2=>⟨zad h2,.inr ⟨fun r' he=>?_,rfl,Own.ext o h2⟩⟩,fun he=>⟨by simp,by simp,_,g0,by omega,by rw [zat]; simp; omega,Int.le_refl _,by simp,by simp,?_⟩⟩⟩
    · rw [hx] at hne
      simp at he
      rw [he.1] at hne
      exact hne rfl
    · rw [hx] at he
      have hxc:x=c:=UInt8.toNat_inj.1 (by omega)
      subst hxc
      refine o.put (m:=r) ?_ fun w3 o3 f3 w4 h4=>⟨f3.tr (zad h4),.inl ⟨r,rfl,rfl,Own.ext o3 h4⟩⟩
      rw [<- zb9 (ByteArray.extract _ _ _)]
      congr 1
      rw [zat]
      simp [ofL]
theorem zAx {B:Nat} {w:World} {rb:Nat} {l:List UInt8} {left:Nat} (o:RD B w rb l left) (hl:l.length<=2000) :
    FnP Tryz.prog zbx #[rp rb] w fun v w'=>Fr (·=rb) w w'/\∃ a b,v=.string (ofL a)/\l=a++b/\RD B w' rb b left/\(∀ a0 b0,l=a0++b0->asc l->(∀ x∈a0,x∉sgs)->sep b0->a=a0/\b=b0):=by
  obtain ⟨g0,_⟩:=o.cells
  refine zlK _ w _ ⟨by simp,by simp,_,g0,fun w1 h1=>(zAz (ofL l) (by rw [zat]; omega) w1).mono fun v w2 ⟨e2,n,hv,hn,hval⟩=>⟨e2,n,hv,fun hneg=>⟨by simp,by simp,_,g0,by simp,by simp,_,g0,Int.le_refl _,by omega,Int.le_refl _,by simp,by simp,_,g0,by omega,Int.le_refl _,Int.le_refl _,by simp,by simp,?_⟩,fun hge=>⟨by simp,by simp,_,g0,Int.le_refl _,hge,by omega,by simp,by simp,_,g0,hge,by omega,Int.le_refl _,by simp,by simp,?_⟩⟩⟩
  · refine o.put (m:=[]) ?_ fun w3 o3 f3 w4 h4=>⟨f3.tr (zad h4),l,[],?_,by simp,Own.ext o3 h4,fun a0 b0 he hasc ha hb=>?_⟩
    · rw [<- zb9 (ByteArray.extract _ _ _)]
      congr 1
      simp [ofL]
    · rw [<- zb9 (ByteArray.extract _ _ _)]
      congr 2
      simp [ofL]
    · have hv':=hval hasc
      rw [zcm,he] at hv'
      rcases zIa ha hb with ⟨hb0,_⟩|⟨_,hq⟩
      · subst hb0; exact ⟨by rw [he,List.append_nil],rfl⟩
      · omega
  · have hnl:n.toNat<=l.length:=by rw [zat] at hn; omega
    refine o.put (m:=l.drop n.toNat) ?_ fun w3 o3 f3 w4 h4=>⟨f3.tr (zad h4),l.take n.toNat,l.drop n.toNat,?_,by simp,Own.ext o3 h4,fun a0 b0 he hasc ha hb=>?_⟩
    · rw [<- zb9 (ByteArray.extract _ _ _)]
      congr 1
      rw [zat]
      simp only [ByteArray.data_extract,Array.toList_extract,List.extract_eq_take_drop,ofL]
      exact List.take_of_length_le (by simp)
    · rw [<- zb9 (ByteArray.extract _ _ _)]
      congr 2
      simp [ofL]
    · have hv':=hval hasc
      rw [zcm,he] at hv'
      rcases zIa ha hb with ⟨_,hq⟩|⟨_,hq⟩
      · omega
      · have:n.toNat=a0.length:=by omega
        rw [this,he]
        simp
theorem zg7 {l:List UInt8} {n:Int} (h:Lib.parseIntB 64 l=.ok n):InR .i64 n:=by
  have e:(2:Nat)^(64-1)=9223372036854775808:=by decide
  unfold Lib.parseIntB at h
  split at h
  · cases h
  · simp only at h
    split at h
    · cases h
    · cases h
    · rename_i u _
      split at h
      · cases h
      · rename_i h1
        split at h
        · cases h
        · rename_i h3
          injection h with h
          rw [e] at h1 h3
          split at h
          · rename_i h2; exact i64 (by simp [h2] at h1 h3; omega)
          · rename_i h2; exact i64 (by simp [h2] at h1 h3; omega)
theorem zpw {s:ByteArray} (h:lbB s=true):∀ x∈s.data.toList,x∉sgs:=fun x hx hs=>by
  have key:∀ x∈sgs,okC (x.toNat:Int)=false:=by decide
  unfold lbB at h
  simp only [Bool.and_eq_true] at h
  have:=List.all_eq_true.1 h.2 (x.toNat:Int) (List.mem_map.2 ⟨x,hx,rfl⟩)
  rw [key x hs] at this
  cases this
theorem zwd {s:ByteArray} (h:unB s=true):∀ x∈s.data.toList,x∉sgs:=by
  unfold unB at h
  simp only [Bool.or_eq_true,decide_eq_true_eq] at h
  rcases h with (h|h)|h<;>(subst h; decide)
theorem zGR {n:Int} (h:0<=n):∀ x∈Lib.itoa n,x∉sgs:=fun x hx hs=>by
  have key:∀ x∈sgs,x.toNat<48\/57<x.toNat:=by decide
  rcases key x hs with hk|hk
  · exact zi6 h hk hx
  · exact zzC h hk hx
theorem zmG {k y r:List UInt8} {c:UInt8} (hne:k≠[]) (hk:∀ x∈k,x∉sgs) (hc:c∈sgs):k++y≠c::r:=by
  cases k with
  |nil => exact absurd rfl hne
  |cons a k =>
    intro h
    simp at h
    exact hk a (by simp) (h.1▸hc)
theorem zKx {s:ByteArray} (h:lbB s=true):s.data.toList≠[]:=fun h0=>by
  have:=(zcZ h).1
  rw [<- zo4,h0] at this
  simp at this
theorem zLf {s:ByteArray} (h:unB s=true):s.data.toList≠[]:=fun h0=>by
  have:=ztP h
  rw [<- zo4,h0] at this
  simp at this
theorem zCX {k:Int} {key val:ByteArray} {n:Int} {l:Nat} (h:zk7 k key val n l=0) (hk:4<=k):key=emS/\val=emS/\n=0:=by
  unfold zk7 at h
  split at h
  · omega
  split at h
  · omega
  split at h
  · omega
  rename_i a
  refine ⟨Classical.byContradiction fun h1=>a (.inl ⟨hk,h1⟩),Classical.byContradiction fun h1=>a (.inr (.inl ⟨by omega,h1⟩)),Classical.byContradiction fun h1=>a (.inr (.inr ⟨by omega,h1⟩))⟩
theorem nod1 (k:Int) (key val:ByteArray) (n:Int):nod (.mk k key val n [])=1:=by simp [nod,zmM]
theorem znl {t:AT} (h:zeY t=0) :
    (∃ key,t=.mk 1 key emS 0 []/\lbB key=true/\txt t=63::key.data.toList) \/
    (∃ key val,t=.mk 2 key val 0 []/\lbB key=true/\lbB val=true/\txt t=key.data.toList++61::val.data.toList) \/
    (∃ key n,t=.mk 3 key emS n []/\unB key=true/\0<=n/\n<=1099511627776/\txt t=key.data.toList++62::61::Lib.itoa n) \/
    (∃ x,t=.mk 4 emS emS 0 [x]/\zeY x=0/\txt t=33::txt x/\nod t=1+nod x) \/
    (∃ k x y,(k=5\/k=6)/\t=.mk k emS emS 0 [x,y]/\zeY x=0/\zeY y=0/\txt t=40::(txt x++(if k=5 then 38 else 124)::(txt y++[41]))/\nod t=1+nod x+nod y):=by
  cases t with
  |mk k key val n xs =>
  have h1:zk7 k key val n xs.length=0:=(zgZ h).1
  rcases zo2 h with ⟨rfl,x,rfl,hx⟩|⟨hk,x,y,rfl,hx,hy⟩|⟨hk1,hk4,rfl⟩
  · obtain ⟨rfl,rfl,rfl⟩:=zCX h1 (by omega)
    exact .inr (.inr (.inr (.inl ⟨x,rfl,hx,txt4 _ _ _ _,by simp [nod,zmM]⟩)))
  · obtain ⟨rfl,rfl,rfl⟩:=zCX h1 (by omega)
    exact .inr (.inr (.inr (.inr ⟨k,x,y,hk,rfl,hx,hy,zLe hk _ _ _ _ _,by simp [nod,zmM]; omega⟩)))
  · rcases zw0 h hk4 with ⟨rfl,a,rfl,rfl⟩|⟨rfl,a,b,rfl⟩|⟨rfl,a,rfl,c,d⟩
    · exact .inl ⟨key,rfl,a,txt1 _ _ _ _⟩
    · exact .inr (.inl ⟨key,val,rfl,a,b,txt2 _ _ _ _⟩)
    · exact .inr (.inr (.inl ⟨key,n,rfl,a,c,d,txt3 _ _ _ _⟩))
theorem zGB {rb b0:Nat} {w w' w'':World} (h:Fr (·=rb) w w') (hb:w.heap.size<=b0) (x:zag [b0] [] w' w''):Fr (·=rb) w w'' :=
  h.trans (S':=fun b=>b=b0) (zbP x (by intro d hd; simp at hd; exact .inl hd)) fun b hb'=>.inr (hb'▸hb)
theorem RD.b {B:Nat} {w w':World} {rb b0:Nat} {l:List UInt8} {left:Nat} (o:RD B w rb l left) (hb:b0≠rb) (x:zag [b0] [] w w'):RD B w' rb l left :=
  RD.fr (S:=fun b=>b=b0) o (zbP x (by intro d hd; simp at hd; exact .inl hd)) fun h=>hb h.symm
theorem zi8 {rb:Nat} {w w':World} {ns:List Nat} (h:Fr (·=rb) w w') (hn:∀ b∈ns,b<w.heap.size/\b≠rb):zbQ ns w w':=h.kept hn
structure Post (B rb:Nat) (l:List UInt8) (left:Nat) (w:World) (t:AT) (p:Option Addr) (c:Nat) (ok:Bool) (w':World) (l':List UInt8) (left':Nat) (used:Nat):Prop where
  fr:Fr (·=rb) w w'
  rd:RD B w' rb l' left'
  len:l'.length<=l.length
  le:left'<=left
  good:ok=true->WfA t/\nod t+left'=left+used/\∀ S:Nat->Prop,(∀ b,S b->b<w.heap.size)->∀ w'',Fr S w' w''->IsT w'' t p c
def zBO (B rb:Nat) (l:List UInt8) (left:Nat) (w:World) (t:AT) (p:Option Addr) (c:Nat) (ok:Bool) (w':World):Prop :=
  ∃ l' left',Post B rb l left w t p c ok w' l' left' 0/\∀ t0 zau,zeY t0=0->nod t0<=left->l=txt t0++zau->sep zau->asc l->ok=true/\t=t0/\l'=zau
def zCc (B rb:Nat) (l:List UInt8) (left:Nat) (w:World) (t:AT) (p:Option Addr) (c:Nat) (ok:Bool) (w':World):Prop :=
  ∃ l' left',Post B rb l left w t p c ok w' l' left' 1/\∀ (k:Int) (x y:AT) zau,(k=5\/k=6)->zeY x=0->zeY y=0->nod x+nod y<=left->l=txt x++(if k=5 then 38 else 124)::(txt y++41::zau)->asc l->ok=true/\t=.mk k emS emS 0 [x,y]/\l'=zau
def AskC (n:Nat):Prop:=∀ (W0 w:World) (B rb left:Nat) (l:List UInt8),(left<=n/\left<=60)->GB W0->Ext W0 w->W0.heap.size<=rb->RD B w rb l left->l.length<=2000 ->
  FnP Tryz.prog za6 #[rp rb] w fun v w'=>∃ t p c ok,v=.tuple #[av t p c,.bool ok]/\zBO B rb l left w t p c ok w'
def TwoC (n:Nat):Prop:=∀ (W0 w:World) (B rb left:Nat) (l:List UInt8),(left<=n/\left<=60)->GB W0->Ext W0 w->W0.heap.size<=rb->RD B w rb l left->l.length<=2000 ->
  FnP Tryz.prog zeQ #[rp rb] w fun v w'=>∃ t p c ok,v=.tuple #[av t p c,.bool ok]/\zCc B rb l left w t p c ok w'
theorem zsw {a b:List UInt8} (h:asc (a++b)):asc b:=fun x hx=>h x (List.mem_append_right _ hx)
theorem zhB {a:UInt8} {b:List UInt8} (h:asc (a::b)):asc b:=fun x hx=>h x (List.mem_cons_of_mem _ hx)
theorem zyu {k:Int} (hk:0<=k/\k<=100) {a b:List UInt8} (ha:a.length<=2000) (hb:b.length<=2000) {n:Int} (hn:InR .i64 n):WfA (.mk k (ofL a) (ofL b) n []):=by
  unfold WfA
  exact ⟨i64 (by omega),by rw [zat]; omega,by rw [zat]; omega,hn,by simp,by unfold WfL; trivial⟩
theorem zow {w:World} {k:Int} {key val:ByteArray} {n:Int} {p:Option Addr} {c:Nat}:IsT w (.mk k key val n []) p c:=by
  unfold IsT
  exact ⟨Nat.zero_le _,by unfold IsL; trivial⟩
theorem two_k (n:Nat) (hA:AskC n):TwoC n:=by
  intro W0 w B rb left l hn g h0 hrb o hl
  refine zmQ _ w _ fun b0 hb0 w1 x1=>?_
  have hlt:=o.lt
  have hb0r:b0≠rb:=by omega
  have h1:=zaa x1
  have o1:=Own.ext o h1
  refine (hA W0 w1 B rb left l hn g (h0.trans h1) hrb o1 hl).mono fun v w2 ⟨x,px,cx,ok1,hv,l2,left2,P2,C2⟩=>⟨zi8 P2.fr (by intro b hb; simp at hb; subst hb; exact ⟨x1.lt _ (by simp),hb0r⟩),x.k,x.key,x.val,x.n,px,x.xs.length,cx,ok1,hv,fun b11 hb11=>⟨fun hno w12 x12=>?_,fun hok w12 x12=>?_⟩⟩
  · refine ⟨zju,none,0,false,rfl,l2,left2,⟨zGB ((zad h1).tr P2.fr) hb0 x12,RD.b P2.rd hb0r x12,P2.len,P2.le,fun h=>by cases h⟩,fun k a b zau hk ha hb hnod he hasc=>?_⟩
    have:=C2 a _ ha (by omega) he (by split<;>exact zfe (by decide)) hasc
    rw [hno] at this
    exact absurd this.1 (by simp)
  subst hok
  obtain ⟨hWx,hnx,hTx⟩:=P2.good rfl
  have f2:Fr (·=rb) w w2:=(zad h1).tr P2.fr
  have h12:=zaa x12
  have hb2:rb<w2.heap.size:=P2.rd.lt
  have hb0w:b0<w1.heap.size:=x1.lt b0 (by simp)
  have s12:w1.heap.size<=w2.heap.size:=P2.fr.size
  have hns:∀ b∈[b0,b11],b<w12.heap.size/\b≠rb:=by
    intro b hb
    refine ⟨x12.lt b hb,?_⟩
    simp at hb
    rcases hb with rfl|rfl
    · exact hb0r
    · omega
  have tail:∀ (k:Int) (w15:World),(k=5\/k=6)->∀ (l4:List UInt8),Fr (·=rb) w2 w15->RD B w15 rb l4 left2->b0<w15.heap.size->b11<w15.heap.size->l4.length<=l2.length ->
      (∀ (k':Int) (a b:AT) zau,(k'=5\/k'=6)->zeY a=0->zeY b=0->nod a+nod b<=left->l=txt a++(if k'=5 then 38 else 124)::(txt b++41::zau)->asc l->k'=k/\x=a/\l4=txt b++41::zau) ->
      FnP Tryz.prog za6 #[rp rb] w15 fun v w16=>zbQ [b0,b11] w15 w16/\∃ y py cy ok2,v=.tuple #[av y py cy,.bool ok2]/\∀ b25:Nat,w16.heap.size<=b25 ->
        ∃ (J:Bool->Int->ByteArray->ByteArray->Int->Option Addr->Nat->Nat->World->Prop),
          (∀ w34,zag [] [b0,b11,b25] w16 w34->Run Tryz.prog (.buildSlice zck 2 [(0,av x px cx),(1,av y py cy)]) w34 fun v35 w35=>Ext w34 w35/\∃ t36:Option Addr,∃ tl37:Nat,∃ tc38:Nat,v35=(.slice t36 tl37 tc38) /\
            ((ok2=true->∀ w39,zag [] [b0,b11,b25] w35 w39->FnP Tryz.prog zaf #[rp rb,.int .u8 41] w39 fun v40 w40=>zbQ [b0,b11,b25] w39 w40/\∃ t41:Bool,v40=.bool t41/\J t41 k (⟨#[]⟩:ByteArray) (⟨#[]⟩:ByteArray) 0 t36 tl37 tc38 w40)/\(ok2=false->J false k (⟨#[]⟩:ByteArray) (⟨#[]⟩:ByteArray) 0 t36 tl37 tc38 w35))) /\
          (ok2=true->∀ w34,zag [] [b0,b11,b25] w16 w34->FnP Tryz.prog zaf #[rp rb,.int .u8 41] w34 fun v35 w35=>zbQ [b0,b11,b25] w34 w35/\∃ t36:Bool,v35=.bool t36 /\
            ∀ w37,zag [] [b0,b11,b25] w35 w37->Run Tryz.prog (.buildSlice zck 2 [(0,av x px cx),(1,av y py cy)]) w37 fun v38 w38=>Ext w37 w38/\∃ t39:Option Addr,∃ tl40:Nat,∃ tc41:Nat,v38=(.slice t39 tl40 tc41)/\J t36 k (⟨#[]⟩:ByteArray) (⟨#[]⟩:ByteArray) 0 t39 tl40 tc41 w38) /\
          (ok2=false->∀ w34,zag [] [b0,b11,b25] w16 w34->Run Tryz.prog (.buildSlice zck 2 [(0,av x px cx),(1,av y py cy)]) w34 fun v35 w35=>Ext w34 w35/\∃ t36:Option Addr,∃ tl37:Nat,∃ tc38:Nat,v35=(.slice t36 tl37 tc38)/\J false k (⟨#[]⟩:ByteArray) (⟨#[]⟩:ByteArray) 0 t36 tl37 tc38 w35) /\
          (∀ ok kk key val nn q ql qc w33,J ok kk key val nn q ql qc w33->∀ w34,zag [b0] [] w33 w34->∃ t p c ok',Value.tuple #[.agg #[.int .i64 kk,.string key,.string val,.int .i64 nn,.slice q ql qc],.bool ok]=.tuple #[av t p c,.bool ok']/\zCc B rb l left w t p c ok' w34):=by
    intro k w15 hk l4 f15 o15 hb015 hb1115 hl4 hC
    have hl2:=P2.len
    have ext15:Ext W0 w15:=(f2.tr f15).ext h0 (by intro b hb; omega)
    have hle2:=P2.le
    refine (hA W0 w15 B rb left2 l4 (by omega) g ext15 hrb o15 (by omega)).mono fun v w16 ⟨y,py,cy,ok2,hv,l5,left5,P5,C5⟩=>⟨zi8 P5.fr (by intro b hb; simp at hb; rcases hb with rfl|rfl; (· exact ⟨hb015,hb0r⟩); exact ⟨hb1115,by omega⟩),y,py,cy,ok2,hv,fun b25 hb25=>?_⟩
    have f16:Fr (·=rb) w w16:=(f2.tr f15).tr P5.fr
    have hrb16:rb<w16.heap.size:=P5.rd.lt
    have sz2:w2.heap.size<=w15.heap.size:=f15.size
    have sz5:w15.heap.size<=w16.heap.size:=P5.fr.size
    have szw:w.heap.size<=w2.heap.size:=f2.size
    have hnb:∀ (w':World),(∀ b∈[b0,b11,b25],b<w'.heap.size)->∀ b∈[b0,b11,b25],b<w'.heap.size/\b≠rb:=by
      intro w' h b hb
      refine ⟨h b hb,?_⟩
      simp at hb
      rcases hb with rfl|rfl|rfl<;>omega
    have built:∀ (w35 w36:World) (q:Option Addr) (qc:Nat),Fr (·=rb) w16 w35->Own w16.heap.size w35 zdQ 5 q 2 qc (zos x px cx++zos y py cy)->Fr (fun b=>b=rb) w35 w36 ->
        ok2=true->∀ S:Nat->Prop,(∀ b,S b->b<w.heap.size)->∀ w'',Fr (fun b=>S b\/b=b0) w36 w''->IsT w'' (.mk k emS emS 0 [x,y]) q qc:=by
      intro w35 w36 q qc fa ow fb hok2 S hS w'' fc
      subst hok2
      obtain ⟨hWy,hny,hTy⟩:=P5.good rfl
      have fall:Fr (fun b=>b=rb\/S b\/b=b0) w16 w'':=((fa.tr fb).mono fun b hb=>.inl hb).tr (fc.mono fun b hb=>.inr hb)
      have bnd:∀ b,(b=rb\/S b\/b=b0)->b<w1.heap.size:=by
        intro b hb
        have:=h1.size
        rcases hb with rfl|hb|rfl
        · omega
        · have:=hS b hb; omega
        · exact hb0w
      have tx:IsT w'' x px cx:=hTx _ bnd w'' ((f15.mono fun b hb=>.inl hb).tr ((P5.fr.mono fun b hb=>.inl hb).tr fall))
      have ty:IsT w'' y py cy:=hTy _ (fun b hb=>by have:=bnd b hb; omega) w'' fall
      unfold IsT
      have hle:=ow.le
      refine ⟨by simpa using hle.1,zxB (l:=[(x,px,cx),(y,py,cy)]) (fun j u hu=>?_) (by intro z hz; simp at hz; rcases hz with rfl|rfl<;>assumption)⟩
      have hcell:Go.Sx.cell w35 q j=some u:=ow.cells j u (by simpa using hu)
      have hq:∀ a,q=some a->¬ (a.block=rb\/S a.block\/a.block=b0):=fun a ha hb=>by
        have:=(ow.lt a ha).1
        have:=bnd _ hb
        omega
      have:=zdS hcell ((fb.mono fun b hb=>.inl hb).tr (fc.mono fun b hb=>.inr hb):Fr (fun b=>b=rb\/S b\/b=b0) w35 w'') hq
      simpa using this
    refine ⟨fun ok kk key val nn q ql qc w'=>(kk=k/\key=(⟨#[]⟩:ByteArray)/\val=(⟨#[]⟩:ByteArray)/\nn=0)/\ql=2/\Fr (·=rb) w16 w'/\∃ l6,RD B w' rb l6 left5/\l6.length<=l5.length/\(ok=true->ok2=true/\∀ S:Nat->Prop,(∀ b,S b->b<w.heap.size)->∀ w'',Fr (fun b=>S b\/b=b0) w' w''->IsT w'' (.mk k emS emS 0 [x,y]) q qc)/\(∀ zau,l5=41::zau->ok2=true->ok=true/\l6=zau),?_,?_,?_,?_⟩
    · intro w34 x34
      have h34:=zaa x34
      refine zcE zfz [av x px cx,av y py cy] rfl rfl (by intro v hv; simp at hv; rcases hv with rfl|rfl<;>rfl) (by omega) (by omega) fun w35 o35 e35=>⟨e35,_,_,_,rfl,fun hok2 w39 x39=>?_,fun hok2=>?_⟩
      · have h39:=zaa x39
        have ow:Own w16.heap.size w39 zdQ 5 (some ⟨w34.heap.size,0,none⟩) 2 2 (zos x px cx++zos y py cy):=(by simpa [Value.cells,zos] using (o35 w16.heap.size h34.size)) |> fun o=>Own.ext o h39
        refine (zki (Own.ext (Own.ext (Own.ext P5.rd h34) e35) h39) (by have:=P5.len; omega) 41 41 rfl).mono fun v w40 ⟨f40,hor⟩=>⟨zi8 f40 (hnb w39 x39.lt),?_⟩
        have fa:Fr (·=rb) w16 w39:=zad ((h34.trans e35).trans h39)
        rcases hor with ⟨r,hr,hv,o40⟩|⟨hr,hv,o40⟩
        · exact ⟨true,hv,⟨rfl,rfl,rfl,rfl⟩,rfl,fa.tr f40,r,o40,by rw [hr]; simp,fun _=>⟨hok2,built w39 w40 _ _ fa ow f40 hok2⟩,fun zau he _=>⟨rfl,by rw [hr] at he; simpa using he⟩⟩
        · exact ⟨false,hv,⟨rfl,rfl,rfl,rfl⟩,rfl,fa.tr f40,l5,o40,Nat.le_refl _,fun h=>(by cases h),fun zau he _=>absurd he (hr zau)⟩
      · exact ⟨⟨rfl,rfl,rfl,rfl⟩,rfl,zad (h34.trans e35),l5,Own.ext (Own.ext P5.rd h34) e35,Nat.le_refl _,fun h=>(by cases h),fun zau he hb=>(by rw [hok2] at hb; cases hb)⟩
    · intro hok2 w34 x34
      have h34:=zaa x34
      refine (zki (Own.ext P5.rd h34) (by have:=P5.len; omega) 41 41 rfl).mono fun v w35 ⟨f35,hor⟩=>⟨zi8 f35 (hnb w34 x34.lt),?_⟩
      have fa:Fr (·=rb) w16 w35:=(zad h34).tr f35
      have body:∀ (t36:Bool) (l6:List UInt8),RD B w35 rb l6 left5->l6.length<=l5.length->(∀ zau,l5=41::zau->ok2=true->t36=true/\l6=zau)->∀ w37,zag [] [b0,b11,b25] w35 w37->Run Tryz.prog (.buildSlice zck 2 [(0,av x px cx),(1,av y py cy)]) w37 fun v38 w38=>Ext w37 w38/\∃ t39:Option Addr,∃ tl40:Nat,∃ tc41:Nat,v38=(.slice t39 tl40 tc41) /\
          ((k=k/\(⟨#[]⟩:ByteArray)=(⟨#[]⟩:ByteArray)/\(⟨#[]⟩:ByteArray)=(⟨#[]⟩:ByteArray)/\(0:Int)=0)/\tl40=2/\Fr (·=rb) w16 w38/\∃ l6,RD B w38 rb l6 left5/\l6.length<=l5.length/\(t36=true->ok2=true/\∀ S:Nat->Prop,(∀ b,S b->b<w.heap.size)->∀ w'',Fr (fun b=>S b\/b=b0) w38 w''->IsT w'' (.mk k emS emS 0 [x,y]) t39 tc41)/\(∀ zau,l5=41::zau->ok2=true->t36=true/\l6=zau)):=by
        intro t36 l6 o6 hl6 hr6 w37 x37
        have h37:=zaa x37
        refine zcE zfz [av x px cx,av y py cy] rfl rfl (by intro v hv; simp at hv; rcases hv with rfl|rfl<;>rfl) (by omega) (by omega) fun w38 o38 e38=>⟨e38,_,_,_,rfl,⟨rfl,rfl,rfl,rfl⟩,rfl,fa.tr (zad (h37.trans e38)),l6,Own.ext (Own.ext o6 h37) e38,hl6,fun _=>⟨hok2,?_⟩,hr6⟩
        have ow:Own w16.heap.size w38 zdQ 5 (some ⟨w37.heap.size,0,none⟩) 2 2 (zos x px cx++zos y py cy):=by simpa [Value.cells,zos] using (o38 w16.heap.size (Nat.le_trans fa.size h37.size))
        exact built w38 w38 _ _ (fa.tr (zad (h37.trans e38))) ow (Fr.refl _ _) hok2
      rcases hor with ⟨r,hr,hv,o40⟩|⟨hr,hv,o40⟩
      · exact ⟨true,hv,body true r o40 (by rw [hr]; simp) fun zau he _=>⟨rfl,by rw [hr] at he; simpa using he⟩⟩
      · exact ⟨false,hv,body false l5 o40 (Nat.le_refl _) fun zau he _=>absurd he (hr zau)⟩
    · intro hok2 w34 x34
      have h34:=zaa x34
      refine zcE zfz [av x px cx,av y py cy] rfl rfl (by intro v hv; simp at hv; rcases hv with rfl|rfl<;>rfl) (by omega) (by omega) fun w35 o35 e35=>⟨e35,_,_,_,rfl,⟨rfl,rfl,rfl,rfl⟩,rfl,zad (h34.trans e35),l5,Own.ext (Own.ext P5.rd h34) e35,Nat.le_refl _,fun h=>(by cases h),fun zau he hb=>(by rw [hok2] at hb; cases hb)⟩
    · rintro ok kk key val nn q ql qc w33 ⟨⟨rfl,rfl,rfl,rfl⟩,rfl,f33,l6,o6,hl6,hgood,hrest⟩ w34 x34
      have hlen5:=P5.len
      have hle5:=P5.le
      refine ⟨.mk _ emS emS 0 [x,y],q,qc,ok,rfl,l6,left5,⟨zGB (f16.tr f33) hb0 x34,RD.b o6 hb0r x34,by omega,by omega,fun hok=>?_⟩,fun k' a b zau hk' ha hb hnod he hasc=>?_⟩
      · obtain ⟨hok2,hT⟩:=hgood hok
        obtain ⟨hWy,hny,_⟩:=P5.good hok2
        refine ⟨zII (by omega) (by simp) (by intro z hz; simp at hz; rcases hz with rfl|rfl<;>assumption),by simp only [nod,zmM]; omega,fun S hS w'' fw=>hT S hS w'' ?_⟩
        exact (zbP x34 (by intro d hd; simp at hd; exact .inl (.inr hd))).tr (fw.mono fun b hb=>.inl hb)
      · obtain ⟨rfl,rfl,hl4'⟩:=hC k' a b zau hk' ha hb hnod he hasc
        have hasc4:asc l4:=by
          rw [hl4']
          rw [he] at hasc
          exact zhB (zsw hasc)
        obtain ⟨h5,rfl,hl5⟩:=C5 b (41::zau) hb (by omega) hl4' (zfe (by decide)) hasc4
        obtain ⟨hk1,hk2⟩:=hrest zau hl5 h5
        exact ⟨hk1,rfl,hk2⟩
  refine (zki (Own.ext P2.rd h12) (by have:=P2.len; omega) 124 124 rfl).mono fun v w13 ⟨f13,hor⟩=>⟨zi8 f13 hns,?_⟩
  have szn:w12.heap.size<=w13.heap.size:=f13.size
  have bnd13:∀ b∈[b0,b11],b<w13.heap.size:=fun b hb=>by have:=(hns b hb).1; omega
  rcases hor with ⟨r,hr,hv,o13⟩|⟨hr,hv,o13⟩
  · refine ⟨true,hv,fun _ w15 x15=>?_,fun h=>(by cases h)⟩
    refine (tail 6 w15 (.inr rfl) r (((zad h12).tr f13).tr (zad (zaa x15))) (Own.ext o13 (zaa x15)) (x15.lt _ (by simp)) (x15.lt _ (by simp)) (by rw [hr]; simp) fun k' a b zau hk' ha hb hnod he hasc=>?_).mono fun v w16 ⟨kp,y,py,cy,ok2,hv,hJ⟩=>⟨kp,y.k,y.key,y.val,y.n,py,y.xs.length,cy,ok2,hv,fun b25 hb25=>?_⟩
    · obtain ⟨_,hxa,hl2⟩:=C2 a _ ha (by omega) he (by split<;>exact zfe (by decide)) hasc
      rw [hr] at hl2
      simp only [List.cons.injEq] at hl2
      refine ⟨?_,hxa,hl2.2⟩
      rcases hk' with rfl|rfl
      · exact absurd hl2.1 (by decide)
      · rfl
    · obtain ⟨J,ja,jb,jc,jd⟩:=hJ b25 hb25
      refine ⟨J,?_,jd⟩
      repeat' (first|exact ja|exact jb|exact jc|apply And.intro)
  · refine ⟨false,hv,fun h=>(by cases h),fun _ w15 x15=>?_⟩
    have h15:=zaa x15
    have hns15:∀ b∈[b0,b11],b<w15.heap.size/\b≠rb:=fun b hb=>⟨x15.lt b hb,(hns b hb).2⟩
    refine (zki (Own.ext o13 h15) (by have:=P2.len; omega) 38 38 rfl).mono fun v w16 ⟨f16,hor⟩=>⟨zi8 f16 hns15,?_⟩
    rcases hor with ⟨r,hr2,hv,o16⟩|⟨hr2,hv,o16⟩
    · refine ⟨true,hv,fun h=>(by cases h),fun _ w18 x18=>?_⟩
      refine (tail 5 w18 (.inl rfl) r ((((zad h12).tr f13).tr (zad h15)).tr (f16.tr (zad (zaa x18)))) (Own.ext o16 (zaa x18)) (x18.lt _ (by simp)) (x18.lt _ (by simp)) (by rw [hr2]; simp) fun k' a b zau hk' ha hb hnod he hasc=>?_).mono fun v w19 ⟨kp,y,py,cy,ok2,hv,hJ⟩=>⟨kp,y.k,y.key,y.val,y.n,py,y.xs.length,cy,ok2,hv,fun b25 hb25=>?_⟩
      · obtain ⟨_,hxa,hl2⟩:=C2 a _ ha (by omega) he (by split<;>exact zfe (by decide)) hasc
        rw [hr2] at hl2
        simp only [List.cons.injEq] at hl2
        refine ⟨?_,hxa,hl2.2⟩
        rcases hk' with rfl|rfl
        · rfl
        · exact absurd hl2.1 (by decide)
      · obtain ⟨J,ja,jb,jc,jd⟩:=hJ b25 hb25
        refine ⟨J,?_,jd⟩
        repeat' (first|exact ja|exact jb|exact jc|apply And.intro)
    · refine ⟨false,hv,fun _ w18 x18=>?_,fun h=>(by cases h)⟩
      refine ⟨zju,none,0,false,rfl,l2,left2,⟨zGB ((f2.tr ((zad h12).tr f13)).tr ((zad h15).tr f16)) hb0 x18,RD.b o16 hb0r x18,P2.len,P2.le,fun h=>(by cases h)⟩,fun k a b zau hk ha hb hnod he hasc=>?_⟩
      obtain ⟨_,_,hl2⟩:=C2 a _ ha (by omega) he (by split<;>exact zfe (by decide)) hasc
      rcases hk with rfl|rfl
      · exact absurd hl2 (hr2 _)
      · exact absurd hl2 (hr _)
theorem zJ5 {P:Program} {t:TypeId} {m:Array (String×TypeId)} (ht:P.underlying t=some (.interface m)) {v:Value} (hv:isErr v) {cx:Bool} {w:World} {K:Value->World->Prop} (hk:∀ b:Bool,(b=true↔v=.nilIface)->K (.bool b) w):Run P (.eq .eql t cx true v .nilIface) w K:=by
  have hb:∀ x:Value,∀ r:Bool,(Op.equal t x .nilIface).run P w=.ok r w->(eqGuard .eql t (opd cx) (opd true) x .nilIface).run P w=.ok () w->binOp .eql t x .nilIface=(do pure (.bool (<- Op.equal t x .nilIface)))->(MC.sem (.eq .eql t cx true x .nilIface)).run P w=.ok (.bool r) w:=fun x r h1 h2 h3=>by
    show (do eqGuard .eql t (opd cx) (opd true) x .nilIface; binOp .eql t x .nilIface:Sem Value).run P w=_
    rw [Sem.run_bind,h2,Result.andThen_ok,h3,Sem.run_bind,h1,Result.andThen_ok,Sem.run_pure]
  rcases hv with rfl|⟨a,b,rfl⟩
  · exact ⟨_,w,hb _ true (zky 9999 ht w) (by cases cx<;>rfl) rfl,hk true (by simp)⟩
  · exact ⟨_,w,hb _ false (zkx 9999 ht a b w) (by cases cx<;>rfl) rfl,hk false (by simp)⟩
theorem zCW {P:Program} {t:TypeId} (ht:zuX P t=true) {v:Value} (hv:isErr v) {cx:Bool} {w:World} {K:Value->World->Prop} (hk:∀ b:Bool,(b=true↔v=.nilIface)->K (.bool b) w):Run P (.eq .eql t cx true v .nilIface) w K:=by
  unfold zuX at ht
  split at ht
  · rename_i m h; exact zJ5 h hv hk
  · cases ht
theorem zDR (t:AT):1<=nod t:=by cases t; simp [nod]
theorem ask_k:∀ n,AskC n:=by
  intro n
  induction n with
  |zero =>
    intro W0 w B rb left l hn g h0 hrb o hl
    obtain rfl:left=0:=by omega
    obtain ⟨_,g1⟩:=o.cells
    refine zg4 _ w _ fun b0 hb0=>⟨by simp,by simp,_,g1,fun _ w2 h2=>⟨zju,none,0,false,rfl,l,0,⟨zad h2,Own.ext o h2,Nat.le_refl _,Nat.le_refl _,fun h=>(by cases h)⟩,fun t0 zau h1 h3=>absurd (zDR t0) (by omega)⟩,fun h=>absurd rfl h⟩
  |succ n ih =>
    intro W0 w B rb left l hn g h0 hrb o hl
    obtain ⟨_,g1⟩:=o.cells
    have hlt:=o.lt
    refine zg4 _ w _ fun b0 hb0=>⟨by simp,by simp,_,g1,fun hz w2 h2=>?_,fun hne=>⟨by simp,by simp,_,g1,i64 (by omega),by simp,by simp,?_⟩⟩
    · obtain rfl:left=0:=by omega
      exact ⟨zju,none,0,false,rfl,l,0,⟨zad h2,Own.ext o h2,Nat.le_refl _,Nat.le_refl _,fun h=>(by cases h)⟩,fun t0 zau h1 h3=>absurd (zDR t0) (by omega)⟩
    have hb0r:b0≠rb:=by omega
    refine o.left hb0r (m:=left-1) (by omega) fun w3 o3 f3 w4 x4=>?_
    have h4:=zaa x4
    have hk:∀ (w' w'':World),b0<w'.heap.size->Fr (·=rb) w' w''->zbQ [b0] w' w'':=fun w' w'' hb f=>zi8 f (by intro b hb'; simp at hb'; subst hb'; exact ⟨hb,hb0r⟩)
    have f4:Fr (·=rb) w w4:=f3.tr (zad h4)
    have no:∀ (w' w'':World) (l':List UInt8),Fr (·=rb) w w'->RD B w' rb l' (left-1)->l'.length<=l.length->zag [b0] [] w' w''->(∀ t0 zau,zeY t0=0->nod t0<=left->l=txt t0++zau->sep zau->asc l->False) ->
        zBO B rb l left w zju none 0 false w'':=fun w' w'' l' f o' hl' x hno =>
      ⟨l',left-1,⟨zGB f hb0 x,RD.b o' hb0r x,hl',by omega,fun h=>(by cases h)⟩,fun t0 zau h1 h2 h3 h5 h6=>(hno t0 zau h1 h2 h3 h5 h6).elim⟩
    refine (zki (Own.ext o3 h4) hl 63 63 rfl).mono fun v w5 ⟨f5,hor⟩=>⟨hk _ _ (x4.lt _ (by simp)) f5,?_⟩
    have F5:=f4.tr f5
    have sz5:=f5.size
    have hb4:b0<w4.heap.size:=x4.lt _ (by simp)
    rcases hor with ⟨r,hr,hv,o5⟩|⟨hr,hv,o5⟩
    · -- a key that is there
      refine ⟨true,hv,fun _ w7 x7=>?_,fun h=>(by cases h)⟩
      have h7:=zaa x7
      have hrl:r.length<=2000:=by rw [hr] at hl; simp at hl; omega
      refine (zAx (Own.ext o5 h7) hrl).mono fun v w8 ⟨f8,a,b,hv,hab,o8,hC⟩=>⟨hk _ _ (x7.lt _ (by simp)) f8,_,hv,fun w10 x10=>?_⟩
      have hla:a.length+b.length=r.length:=by rw [hab]; simp
      refine ⟨.mk 1 (ofL a) (ofL []) 0 [],none,0,true,rfl,b,left-1,⟨zGB ((F5.tr (zad h7)).tr f8) hb0 x10,RD.b o8 hb0r x10,by rw [hr]; simp; omega,by omega,fun _=>⟨zyu (by omega) (by omega) (by simp) (i64 (by omega)),by rw [nod1]; omega,fun S hS w'' _=>zow⟩⟩,fun t0 zau he hnod hl0 hsep hasc=>?_⟩
      rw [hr] at hl0 hasc
      rcases znl he with ⟨key,rfl,hkey,ht⟩|⟨key,val,rfl,hkey,hval,ht⟩|⟨key,m,rfl,hkey,_,_,ht⟩|⟨x,rfl,hx,ht,_⟩|⟨k,x,y,hk',rfl,hx,hy,ht,_⟩
      · rw [ht] at hl0
        simp only [List.cons_append,List.cons.injEq,true_and] at hl0
        obtain ⟨rfl,rfl⟩:=hC _ _ hl0 (zhB hasc) (zpw hkey) hsep
        refine ⟨rfl,?_,rfl⟩
        rw [zb9]; rfl
      · rw [ht,List.append_assoc] at hl0
        exact absurd hl0.symm (zmG (zKx hkey) (zpw hkey) (by decide))
      · rw [ht,List.append_assoc] at hl0
        exact absurd hl0.symm (zmG (zLf hkey) (zwd hkey) (by decide))
      · rw [ht] at hl0; simp at hl0
      · rw [ht] at hl0; simp at hl0
    refine ⟨false,hv,fun h=>(by cases h),fun _ w7 x7=>?_⟩
    have h7:=zaa x7
    refine (zki (Own.ext o5 h7) hl 33 33 rfl).mono fun v w8 ⟨f8,hor⟩=>⟨hk _ _ (x7.lt _ (by simp)) f8,?_⟩
    have F8:=(F5.tr (zad h7)).tr f8
    have ext8:Ext W0 w8:=F8.ext h0 (by intro b hb; omega)
    have hb7:b0<w7.heap.size:=x7.lt _ (by simp)
    have sz8:=f8.size
    rcases hor with ⟨r,hr2,hv,o8⟩|⟨hr2,hv,o8⟩
    · -- what is not
      refine ⟨true,hv,fun _ w10 x10=>?_,fun h=>(by cases h)⟩
      have h10:=zaa x10
      have hrl:r.length+1=l.length:=by rw [hr2]; simp
      refine (ih W0 w10 B rb (left-1) r (by omega) g (ext8.trans h10) hrb (Own.ext o8 h10) (by omega)).mono fun v w11 ⟨y,py,cy,ok2,hv,l2,left2,P2,C2⟩=>⟨hk _ _ (x10.lt _ (by simp)) P2.fr,y.k,y.key,y.val,y.n,py,y.xs.length,cy,ok2,hv,fun b20 hb20 w21 x21=>?_⟩
      have h21:=zaa x21
      have hlen2:=P2.len
      have hle2:=P2.le
      refine zcE zfz [av y py cy] rfl rfl (by intro v hv; simp at hv; subst hv; rfl) (by omega) (by omega) fun w22 o22 e22=>⟨e22,_,_,_,rfl,fun w26 x26=>?_⟩
      have F22:Fr (·=rb) w w22:=((F8.tr (zad h10)).tr P2.fr).tr (zad (h21.trans e22))
      refine ⟨.mk 4 emS emS 0 [y],some ⟨w21.heap.size,0,none⟩,1,ok2,rfl,l2,left2,⟨zGB F22 hb0 x26,RD.b (Own.ext (Own.ext P2.rd h21) e22) hb0r x26,by omega,by omega,fun hok=>?_⟩,fun t0 zau he hnod hl0 hsep hasc=>?_⟩
      · obtain ⟨hWy,hny,hTy⟩:=P2.good hok
        refine ⟨zII (by omega) (by simp) (by intro z hz; simp at hz; subst hz; exact hWy),by simp only [nod,zmM]; omega,fun S hS w'' fw=>?_⟩
        have fb:Fr (fun b=>S b\/b=b0) w22 w'':=(zbP x26 (by intro d hd; simp at hd; exact .inl (.inr hd))).tr (fw.mono fun b hb=>.inl hb)
        have bnd:∀ b,(S b\/b=b0)->b<w10.heap.size:=by
          intro b hb
          have:=x10.lt b0 (by simp)
          have s1:=F8.size
          have s2:=h10.size
          rcases hb with hb|rfl
          · have:=hS b hb; omega
          · exact this
        have ty:IsT w'' y py cy:=hTy _ bnd w'' ((zad (h21.trans e22)).tr fb)
        have sA:=P2.fr.size
        have sB:=h21.size
        unfold IsT
        refine ⟨by simp,zxB (l:=[(y,py,cy)]) (fun j u hu=>?_) (by intro z hz; simp at hz; subst hz; exact ty)⟩
        have hcell:Go.Sx.cell w22 (some ⟨w21.heap.size,0,none⟩) j=some u:=(o22 0 (Nat.zero_le _)).cells j u (by simpa [Value.cells,zos,AT.k,AT.key,AT.val,AT.n,AT.xs] using hu)
        have:=zdS hcell fb (fun a ha hb=>by obtain rfl:=Option.some.inj ha; have:=bnd _ hb; simp only [] at this; omega)
        simpa using this
      · rw [hr2] at hl0 hasc
        rcases znl he with ⟨key,rfl,hkey,ht⟩|⟨key,val,rfl,hkey,hval,ht⟩|⟨key,m,rfl,hkey,_,_,ht⟩|⟨x,rfl,hx,ht,hnx⟩|⟨k,x,y',hk',rfl,hx,hy,ht,_⟩
        · rw [ht] at hl0; simp at hl0
        · rw [ht,List.append_assoc] at hl0
          exact absurd hl0.symm (zmG (zKx hkey) (zpw hkey) (by decide))
        · rw [ht,List.append_assoc] at hl0
          exact absurd hl0.symm (zmG (zLf hkey) (zwd hkey) (by decide))
        · rw [ht] at hl0
          simp only [List.cons_append,List.cons.injEq,true_and] at hl0
          obtain ⟨h1,rfl,h3⟩:=C2 x zau hx (by omega) hl0 hsep (zhB hasc)
          exact ⟨h1,rfl,h3⟩
        · rw [ht] at hl0; simp at hl0
    refine ⟨false,hv,fun h=>(by cases h),fun _ w10 x10=>?_⟩
    have h10:=zaa x10
    refine (zki (Own.ext o8 h10) hl 40 40 rfl).mono fun v w11 ⟨f11,hor⟩=>⟨hk _ _ (x10.lt _ (by simp)) f11,?_⟩
    have F11:=(F8.tr (zad h10)).tr f11
    have ext11:Ext W0 w11:=F11.ext h0 (by intro b hb; omega)
    have sz11:=f11.size
    have hb10:b0<w10.heap.size:=x10.lt _ (by simp)
    rcases hor with ⟨r,hr3,hv,o11⟩|⟨hr3,hv,o11⟩
    · -- two of them
      refine ⟨true,hv,fun _ w13 x13=>?_,fun h=>(by cases h)⟩
      have h13:=zaa x13
      have hrl:r.length+1=l.length:=by rw [hr3]; simp
      refine (two_k n ih W0 w13 B rb (left-1) r (by omega) g (ext11.trans h13) hrb (Own.ext o11 h13) (by omega)).mono fun v w14 ⟨y,py,cy,ok2,hv,l2,left2,P2,C2⟩=>⟨hk _ _ (x13.lt _ (by simp)) P2.fr,y.k,y.key,y.val,y.n,py,y.xs.length,cy,ok2,hv,fun w23 x23=>?_⟩
      have hlen2:=P2.len
      have hle2:=P2.le
      have F14:=(F11.tr (zad h13)).tr P2.fr
      refine ⟨y,py,cy,ok2,rfl,l2,left2,⟨zGB F14 hb0 x23,RD.b P2.rd hb0r x23,by omega,by omega,fun hok=>?_⟩,fun t0 zau he hnod hl0 hsep hasc=>?_⟩
      · obtain ⟨hWy,hny,hTy⟩:=P2.good hok
        refine ⟨hWy,by omega,fun S hS w'' fw=>?_⟩
        refine hTy (fun b=>S b\/b=b0) (fun b hb=>?_) w'' ((zbP x23 (by intro d hd; simp at hd; exact .inl (.inr hd))).tr (fw.mono fun b hb=>.inl hb))
        have:=x13.lt b0 (by simp)
        have s1:=F11.size
        have s2:=h13.size
        rcases hb with hb|rfl
        · have:=hS b hb; omega
        · exact this
      · rw [hr3] at hl0 hasc
        rcases znl he with ⟨key,rfl,hkey,ht⟩|⟨key,val,rfl,hkey,hval,ht⟩|⟨key,m,rfl,hkey,_,_,ht⟩|⟨x,rfl,hx,ht,hnx⟩|⟨k,x,y',hk',rfl,hx,hy,ht,hnx⟩
        · rw [ht] at hl0; simp at hl0
        · rw [ht,List.append_assoc] at hl0
          exact absurd hl0.symm (zmG (zKx hkey) (zpw hkey) (by decide))
        · rw [ht,List.append_assoc] at hl0
          exact absurd hl0.symm (zmG (zLf hkey) (zwd hkey) (by decide))
        · rw [ht] at hl0; simp at hl0
        · rw [ht] at hl0
          simp only [List.cons_append,List.cons.injEq,true_and,List.append_assoc,List.nil_append] at hl0
          exact C2 k x y' zau hk' hx hy (by omega) hl0 (zhB hasc)
    refine ⟨false,hv,fun h=>(by cases h),fun _ w13 x13=>?_⟩
    have h13:=zaa x13
    have inv:∀ t0 zau,zeY t0=0->l=txt t0++zau->(∃ key val,t0=.mk 2 key val 0 []/\lbB key=true/\lbB val=true/\l=key.data.toList++61::(val.data.toList++zau))\/(∃ key m,t0=.mk 3 key emS m []/\unB key=true/\0<=m/\m<=1099511627776/\l=key.data.toList++62::61::(Lib.itoa m++zau)):=fun t0 zau he hl0=>by
      rcases znl he with ⟨key,rfl,hkey,ht⟩|⟨key,val,rfl,hkey,hval,ht⟩|⟨key,m,rfl,hkey,hm1,hm2,ht⟩|⟨x,rfl,hx,ht,hnx⟩|⟨k,x,y',hk',rfl,hx,hy,ht,hnx⟩
      · rw [ht] at hl0; exact absurd hl0 (hr _)
      · exact .inl ⟨key,val,rfl,hkey,hval,by rw [hl0,ht]; simp⟩
      · exact .inr ⟨key,m,rfl,hkey,hm1,hm2,by rw [hl0,ht]; simp⟩
      · rw [ht] at hl0; exact absurd hl0 (hr2 _)
      · rw [ht] at hl0; exact absurd hl0 (hr3 _)
    refine (zAx (Own.ext o11 h13) hl).mono fun v w14 ⟨f14,a,b,hv,hab,o14,hC⟩=>⟨hk _ _ (x13.lt _ (by simp)) f14,_,hv,fun w16 x16=>?_⟩
    have hla:a.length+b.length=l.length:=by rw [hab]; simp
    have h16:=zaa x16
    have F14:=(F11.tr (zad h13)).tr f14
    refine (zki (Own.ext o14 h16) (by omega) 62 62 rfl).mono fun v w17 ⟨f17,hor⟩=>⟨hk _ _ (x16.lt _ (by simp)) f17,?_⟩
    have F17:=(F14.tr (zad h16)).tr f17
    rcases hor with ⟨r,hr4,hv,o17⟩|⟨hr4,hv,o17⟩
    · refine ⟨true,hv,fun _ w19 x19=>?_,fun h=>(by cases h)⟩
      have h19:=zaa x19
      have hlr:r.length+1=b.length:=by rw [hr4]; simp
      have inv3:∀ t0 zau,zeY t0=0->l=txt t0++zau->asc l->∃ m,t0=.mk 3 (ofL a) emS m []/\0<=m/\m<=1099511627776/\r=61::(Lib.itoa m++zau):=fun t0 zau he hl0 hasc=>by
        rcases inv t0 zau he hl0 with ⟨key,val,rfl,hkey,hval,h⟩|⟨key,m,rfl,hkey,hm1,hm2,h⟩
        · obtain ⟨_,hb⟩:=hC _ _ h hasc (zpw hkey) (zfe (by decide))
          rw [hr4] at hb
          simp at hb
        · obtain ⟨ha,hb⟩:=hC _ _ h hasc (zwd hkey) (zfe (by decide))
          rw [hr4] at hb
          simp only [List.cons.injEq,true_and] at hb
          exact ⟨m,by rw [ha,zb9],hm1,hm2,hb⟩
      refine (zki (Own.ext o17 h19) (by omega) 61 61 rfl).mono fun v w20 ⟨f20,hor⟩=>⟨hk _ _ (x19.lt _ (by simp)) f20,?_⟩
      have F20:=(F17.tr (zad h19)).tr f20
      rcases hor with ⟨r2,hr5,hv,o20⟩|⟨hr5,hv,o20⟩
      · refine ⟨true,hv,fun h=>(by cases h),fun _ w22 x22=>?_⟩
        have h22:=zaa x22
        have hlr2:r2.length+1=r.length:=by rw [hr5]; simp
        refine (zAx (Own.ext o20 h22) (by omega)).mono fun v w23 ⟨f23,a2,b2,hv,hab2,o23,hC2⟩=>⟨hk _ _ (x22.lt _ (by simp)) f23,_,hv,fun w25 x25=>?_⟩
        have h25:=zaa x25
        have hla2:a2.length+b2.length=r2.length:=by rw [hab2]; simp
        have F25:=((F20.tr (zad h22)).tr f23).tr (zad h25)
        have ext25:Ext W0 w25:=F25.ext h0 (by intro b hb; omega)
        refine (zjB (ofL a2) (by rw [zat]; omega) w25 (g.ext ext25)).mono fun v w26 ⟨e26,m,ev,hv,hcase⟩=>⟨e26,m,ev,hv,?_⟩
        have F26:=F25.tr (zad e26)
        have o26:=Own.ext (Own.ext o23 h25) e26
        refine ⟨fun ok kk key val nn q ql qc w'=>(kk=3/\key=ofL a/\val=(⟨#[]⟩:ByteArray)/\nn=m/\q=none/\ql=0/\qc=0)/\w'=w26/\(ok=true↔ev=.nilIface),⟨fun w37 h37=>?_,fun w37 x37=>?_⟩,?_⟩
        · exact zCW (by kernel_rfl) (hcase.elim (fun h=>.inl h.1) fun h=>.inr h.1) fun t ht=>⟨Ext.refl _,t,rfl,⟨rfl,rfl,rfl,rfl,rfl,rfl,rfl⟩,rfl,ht⟩
        · exact zCW (by kernel_rfl) (hcase.elim (fun h=>.inl h.1) fun h=>.inr h.1) fun t ht=>⟨Ext.refl _,t,rfl,⟨rfl,rfl,rfl,rfl,rfl,rfl,rfl⟩,rfl,ht⟩
        · rintro ok kk key val nn q ql qc w36 ⟨⟨rfl,rfl,rfl,rfl,rfl,rfl,rfl⟩,rfl,hok⟩ w37 x37
          refine ⟨.mk 3 (ofL a) (ofL []) nn [],none,0,ok,rfl,b2,left-1,⟨zGB F26 hb0 x37,RD.b o26 hb0r x37,by omega,by omega,fun h=>⟨zyu (by omega) (by omega) (by simp) ?_,by rw [nod1]; omega,fun S hS w'' _=>zow⟩⟩,fun t0 zau he hnod hl0 hsep hasc=>?_⟩
          · rcases hcase with ⟨_,hp⟩|⟨⟨x,y,he⟩,_⟩
            · exact zg7 hp
            · rw [hok.1 h] at he; cases he
          · obtain ⟨m',rfl,hm1,hm2,hr6⟩:=inv3 t0 zau he hl0 hasc
            rw [hr5] at hr6
            simp only [List.cons.injEq,true_and] at hr6
            have hasc2:asc r2:=by
              rw [hab,hr4,hr5] at hasc
              exact zhB (zhB (zsw hasc))
            obtain ⟨rfl,rfl⟩:=hC2 _ _ hr6 hasc2 (zGR hm1) hsep
            have hp:=zep ⟨hm1,hm2⟩
            rcases hcase with ⟨h1,hp'⟩|⟨_,hp'⟩
            · rw [zcm,hp] at hp'
              cases hp'
              exact ⟨hok.2 h1,rfl,rfl⟩
            · rw [zcm] at hp'
              exact absurd hp (hp' _)
      · refine ⟨false,hv,fun _ w22 x22=>?_,fun h=>(by cases h)⟩
        refine ⟨zju,none,0,false,rfl,no w20 w22 r F20 o20 (by omega) x22 fun t0 zau he hnod hl0 hsep hasc=>?_⟩
        obtain ⟨m,_,_,_,h⟩:=inv3 t0 zau he hl0 hasc
        exact hr5 _ h
    · refine ⟨false,hv,fun h=>(by cases h),fun _ w19 x19=>?_⟩
      have h19:=zaa x19
      have inv2:∀ t0 zau,zeY t0=0->l=txt t0++zau->asc l->∃ val,t0=.mk 2 (ofL a) val 0 []/\lbB val=true/\b=61::(val.data.toList++zau):=fun t0 zau he hl0 hasc=>by
        rcases inv t0 zau he hl0 with ⟨key,val,rfl,hkey,hval,h⟩|⟨key,m,rfl,hkey,hm1,hm2,h⟩
        · obtain ⟨ha,hb⟩:=hC _ _ h hasc (zpw hkey) (zfe (by decide))
          exact ⟨val,by rw [ha,zb9],hval,hb⟩
        · obtain ⟨_,hb⟩:=hC _ _ h hasc (zwd hkey) (zfe (by decide))
          exact absurd hb (hr4 _)
      refine (zki (Own.ext o17 h19) (by omega) 61 61 rfl).mono fun v w20 ⟨f20,hor⟩=>⟨hk _ _ (x19.lt _ (by simp)) f20,?_⟩
      have F20:=(F17.tr (zad h19)).tr f20
      rcases hor with ⟨r2,hr5,hv,o20⟩|⟨hr5,hv,o20⟩
      · refine ⟨true,hv,fun h=>(by cases h),fun _ w22 x22=>?_⟩
        have h22:=zaa x22
        have hlr2:r2.length+1=b.length:=by rw [hr5]; simp
        refine (zAx (Own.ext o20 h22) (by omega)).mono fun v w23 ⟨f23,a2,b2,hv,hab2,o23,hC2⟩=>⟨hk _ _ (x22.lt _ (by simp)) f23,_,hv,fun w25 x25=>?_⟩
        have hla2:a2.length+b2.length=r2.length:=by rw [hab2]; simp
        refine ⟨.mk 2 (ofL a) (ofL a2) 0 [],none,0,true,rfl,b2,left-1,⟨zGB ((F20.tr (zad h22)).tr f23) hb0 x25,RD.b o23 hb0r x25,by omega,by omega,fun _=>⟨zyu (by omega) (by omega) (by omega) (i64 (by omega)),by rw [nod1]; omega,fun S hS w'' _=>zow⟩⟩,fun t0 zau he hnod hl0 hsep hasc=>?_⟩
        obtain ⟨val,rfl,hval,hb⟩:=inv2 t0 zau he hl0 hasc
        rw [hr5] at hb
        simp only [List.cons.injEq,true_and] at hb
        have hasc2:asc r2:=by
          rw [hab,hr5] at hasc
          exact zhB (zsw hasc)
        obtain ⟨rfl,rfl⟩:=hC2 _ _ hb hasc2 (zpw hval) hsep
        exact ⟨rfl,by rw [zb9],rfl⟩
      · refine ⟨false,hv,fun _ w22 x22=>?_,fun h=>(by cases h)⟩
        refine ⟨zju,none,0,false,rfl,no w20 w22 b F20 o20 (by omega) x22 fun t0 zau he hnod hl0 hsep hasc=>?_⟩
        obtain ⟨val,_,_,h⟩:=inv2 t0 zau he hl0 hasc
        exact hr5 _ h
mutual
theorem zsD:∀ t:AT,nod t<=1048576->zJE t=nod t
  |.mk k key val n xs,h => by
    unfold zJE nod
    unfold nod at h
    rw [zzf xs 1 (by omega)]
    omega
theorem zzf:∀ (xs:List AT) (a:Int),0<=a/\a+zmM xs<=1048576->zFn xs a=a+zmM xs
  |[],a,_ => by unfold zFn zmM; simp
  |x::r,a,h => by
    unfold zFn zmM
    unfold zmM at h
    have hx:=zsD x (by omega)
    rw [hx,wrap64 (by omega),zzf r (a+nod x) (by omega)]
    omega
end
theorem zpg {t:AT}:zmh t=0↔zJE t<=60/\zeY t=0:=by
  unfold zmh
  constructor
  · intro h
    split at h
    · cases h
    · exact ⟨by omega,h⟩
  · rintro ⟨h1,h2⟩
    rw [if_neg (by omega),h2]
theorem zDy {s:ByteArray} (h:lbB s=true):asc s.data.toList:=fun x hx=>by
  unfold lbB at h
  simp only [Bool.and_eq_true] at h
  have:=List.all_eq_true.1 h.2 (x.toNat:Int) (List.mem_map.2 ⟨x,hx,rfl⟩)
  unfold okC at this
  simp only [Bool.or_eq_true,Bool.and_eq_true,decide_eq_true_eq] at this
  omega
theorem un_asc {s:ByteArray} (h:unB s=true):asc s.data.toList:=by
  unfold unB at h
  simp only [Bool.or_eq_true,decide_eq_true_eq] at h
  rcases h with (h|h)|h<;>(subst h; unfold asc; decide)
theorem zGQ {n:Int} (h:0<=n):asc (Lib.itoa n):=fun x hx=>by
  rcases Nat.lt_or_ge 57 x.toNat with h1|h1
  · exact absurd hx (zzC h h1)
  · omega
theorem zsv {a b:List UInt8} (ha:asc a) (hb:asc b):asc (a++b):=fun x hx=>(List.mem_append.1 hx).elim (ha x) (hb x)
theorem ziV {a:UInt8} {b:List UInt8} (ha:a.toNat<128) (hb:asc b):asc (a::b):=fun x hx=>(List.mem_cons.1 hx).elim (fun h=>h▸ha) (hb x)
theorem zEY:∀ t:AT,zeY t=0->asc (txt t):=by
  intro t
  induction t using AT.ind with
  |h k key val n xs ih =>
    intro he
    rcases znl he with ⟨key,h,hkey,ht⟩|⟨key,val,h,hkey,hval,ht⟩|⟨key,m,h,hkey,hm,_,ht⟩|⟨x,h,hx,ht,hnx⟩|⟨k,x,y',hk',h,hx,hy,ht,hnx⟩
    · rw [ht]; exact ziV (by decide) (zDy hkey)
    · rw [ht]; exact zsv (zDy hkey) (ziV (by decide) (zDy hval))
    · rw [ht]; exact zsv (un_asc hkey) (ziV (by decide) (ziV (by decide) (zGQ hm)))
    · injection h with _ _ _ _ h5
      rw [ht]; exact ziV (by decide) (ih x (by rw [h5]; simp) hx)
    · injection h with _ _ _ _ h5
      rw [ht]
      refine ziV (by decide) (zsv (ih x (by rw [h5]; simp) hx) (ziV (by split<;>decide) (zsv (ih y' (by rw [h5]; simp) hy) (ziV (by decide) (fun z hz=>by cases hz)))))
theorem zH9 (t:AT) (p:Option Addr) (c:Nat) (w:World) (hT:IsT w t p c) (hW:WfA t) (hn:nod t<=1048576) (g:GP w):FnP Tryz.prog zjw #[av t p c] w fun v w'=>Ext w w'/\((zmh t≠0/\v=.tuple #[.string emS,.int .i64 (zmh t)])\/(zmh t=0/\v=.tuple #[.string (ofL (txt t)),.int .i64 0])):=by
  refine zxO t.k t.key t.val t.n p t.xs.length c w _ fun b0 _ w1 h1=>(zoS t p c w1 (hT.ext h1) hW).mono fun v w2 ⟨e2,hv⟩=>⟨e2,_,hv,fun hne w4 h4=>⟨h4,.inl ⟨hne,rfl⟩⟩,fun he w4 h4=>?_⟩
  exact (text_k t p c w4 (hT.ext h4) (zpg.1 he).2 (by omega) (g.ext h4)).mono fun v w5 ⟨e5,hv⟩=>⟨e5,_,hv,fun w7 h7=>⟨h7,.inr ⟨he,rfl⟩⟩⟩
theorem zmg (w:World):IsT w zju none 0:=zow
theorem zqy:WfA zju:=by
  unfold WfA
  exact ⟨i64 (by omega),by decide,by decide,i64 (by omega),by simp,by unfold WfL; trivial⟩
theorem zwR (s:ByteArray) (w:World) (g:GB w):FnP Tryz.prog zjv #[.string s] w fun v w'=>Ext w w'/\∃ t p c e,v=.tuple #[av t p c,.int .i64 e]/\WfA t/\(∀ S:Nat->Prop,(∀ b,S b->b<w.heap.size)->∀ w'',Fr S w' w''->IsT w'' t p c) /\
    ((e≠0/\t=zju/\p=none/\c=0)\/(e=0/\zmh t=0/\nod t<=60/\s=ofL (txt t)/\s.size<=2000))/\(∀ t0,zmh t0=0->nod t0<=1048576->s=ofL (txt t0)->s.size<=2000->e=0/\t=t0):=by
  refine zxN s w _ fun b0 hb0=>⟨fun hbig w1 h1=>?_,fun hsm w1 x1=>?_⟩
  · exact ⟨h1,zju,none,0,2,rfl,zqy,fun _ _ _ _=>zmg _,.inl ⟨by decide,rfl,rfl,rfl⟩,fun t0 _ _ _ h=>by omega⟩
  have h1:=zaa x1
  refine zbG (by intro v hv; simp at hv; rcases hv with rfl|rfl<;>rfl) fun w2 o2 e2 w3 x3=>?_
  have h3:=zaa x3
  have hw3:Ext w w3:=(h1.trans e2).trans h3
  have o3:RD w1.heap.size w3 w1.heap.size s.data.toList 60:=by
    have:=Own.ext (o2 w1.heap.size (Nat.le_refl _)) h3
    simpa [RD,zb9] using this
  have hb1:b0<w1.heap.size:=x1.lt b0 (by simp)
  have s13:w1.heap.size<=w3.heap.size:=Nat.le_trans e2.size h3.size
  refine (ask_k 60 w w3 w1.heap.size w1.heap.size 60 s.data.toList (by omega) g hw3 h1.size o3 (by rw [zo4]; omega)).mono fun v w4 ⟨t,p,c,ok,hv,l',left',P,C⟩=>⟨zi8 P.fr (by intro b hb; simp at hb; subst hb; exact ⟨by omega,by omega⟩),t.k,t.key,t.val,t.n,p,t.xs.length,c,ok,hv,fun b13 hb13=>⟨fun hno w14 x14=>?_,fun hok w14 h14=>?_⟩⟩
  · have hw4:Ext w w4:=P.fr.ext hw3 (by intro b hb; have:=h1.size; omega)
    refine ⟨zaw x14 hw4 (by intro d hd; simp at hd; omega),zju,none,0,3,rfl,zqy,fun _ _ _ _=>zmg _,.inl ⟨by decide,rfl,rfl,rfl⟩,fun t0 he hn hs _=>?_⟩
    obtain ⟨h5,h6⟩:=zpg.1 he
    rw [zsD t0 hn] at h5
    have:=C t0 [] h6 (by omega) (by rw [hs,zcm,List.append_nil]) (.inl rfl) (by rw [hs,zcm]; exact zEY t0 h6)
    rw [hno] at this
    exact absurd this.1 (by simp)
  · have hw4:Ext w w4:=P.fr.ext hw3 (by intro b hb; have:=h1.size; omega)
    obtain ⟨hWt,hnt,hTt⟩:=P.good hok
    have hT14:IsT w14 t p c:=hTt (fun _=>False) (fun _ h=>h.elim) w14 (zad h14)
    have hcomp:∀ t0,zmh t0=0->nod t0<=1048576->s=ofL (txt t0)->t=t0:=fun t0 he hn hs=>by
      obtain ⟨h5,h6⟩:=zpg.1 he
      rw [zsD t0 hn] at h5
      exact (C t0 [] h6 (by omega) (by rw [hs,zcm,List.append_nil]) (.inl rfl) (by rw [hs,zcm]; exact zEY t0 h6)).2.1
    have hgp:GP w14:=⟨(g.ext (hw4.trans h14)).pow⟩
    refine (zH9 t p c w14 hT14 hWt (by omega) hgp).mono fun v w15 ⟨e15,hor⟩=>?_
    have fin:∀ w18,zag [b0] [] w4 w18->Ext w w18/\∀ S:Nat->Prop,(∀ b,S b->b<w.heap.size)->∀ w'',Fr S w18 w''->IsT w'' t p c:=fun w18 x18=>⟨zaw x18 hw4 (by intro d hd; simp at hd; omega),fun S hS w'' fw=>hTt (fun b=>S b\/b=b0) (fun b hb=>by have s1:=hw3.size; rcases hb with hb|hb; (· have:=hS b hb; omega); omega) w'' ((zbP x18 (by intro d hd; simp at hd; exact .inl (.inr hd))).tr (fw.mono fun b hb=>.inl hb))⟩
    rcases hor with ⟨hne,hv⟩|⟨he0,hv⟩
    · refine ⟨e15,_,_,hv,fun _ w18 x18=>⟨(fin w18 x18).1,zju,none,0,3,rfl,zqy,fun _ _ _ _=>zmg _,.inl ⟨by decide,rfl,rfl,rfl⟩,fun t0 he hn hs _=>?_⟩,fun h=>absurd h.1 hne⟩
      have:=hcomp t0 he hn hs
      subst this
      exact absurd he hne
    · refine ⟨e15,_,_,hv,fun hbad w18 x18=>⟨(fin w18 x18).1,zju,none,0,3,rfl,zqy,fun _ _ _ _=>zmg _,.inl ⟨by decide,rfl,rfl,rfl⟩,fun t0 he hn hs _=>?_⟩,fun hgd w18 x18=>⟨(fin w18 x18).1,t,p,c,0,rfl,hWt,(fin w18 x18).2,.inr ⟨rfl,he0,by omega,hgd.2.symm,by omega⟩,fun t0 he hn hs _=>⟨rfl,hcomp t0 he hn hs⟩⟩⟩
      have:=hcomp t0 he hn hs
      subst this
      exact hbad.elim (fun h=>absurd rfl h) fun h=>absurd hs.symm h
abbrev Bs:=List UInt8
def ub (x:Int):UInt8:=UInt8.ofNat (x%256).toNat
theorem zD5 {n:Int} (h:-1099511627776<=n/\n<0):Lib.parseIntB 64 (Lib.itoa n)=.ok n:=by
  unfold Lib.itoa
  rw [if_pos (by omega),Lib.parseIntB_minus]
  unfold Lib.parseUintB
  rw [if_neg (zpd _),show (2:Nat)^64-1=18446744073709551615 by decide,zvM _ (by omega)]
  show (if (2:Nat)^(64-1)<n.natAbs then _ else _)=_
  rw [if_neg (by have:(2:Nat)^(64-1)=9223372036854775808:=by decide
                 omega)]
  congr 1; omega
theorem zg6 {n:Int} (h:-1099511627776<=n/\n<=1099511627776):Lib.parseIntB 64 (Lib.itoa n)=.ok n:=by
  rcases Int.lt_or_le n 0 with h0|h0
  · exact zD5 ⟨h.1,h0⟩
  · exact zep ⟨h0,h.2⟩
theorem zGP {n:Int}:∀ c∈Lib.itoa n,c=45\/(48<=c.toNat/\c.toNat<=57):=fun c hc=>by
  unfold Lib.itoa at hc
  split at hc
  · rcases List.mem_cons.1 hc with h|h
    · exact .inl h
    · exact .inr (zcY _ c h)
  · exact .inr (zcY _ c hc)
theorem zAK (l:List UInt8):Lib.atoiAll l=Lib.parseIntB 64 l:=by
  unfold Lib.atoiAll Lib.parseIntB
  cases l with
  |nil => rfl
  |cons c r =>
    simp only [Lib.parseUintB_64]
    rfl
theorem zrF (s:ByteArray) (hs:s.size<=281474976710656) (w:World) (g:GB w):FnP Tryz.prog zdg #[.string s] w fun v w'=>Ext w w'/\∃ (n:Int) (ev:Value),v=.tuple #[.int .i64 n,ev] /\
    ((ev=.nilIface/\Lib.parseIntB 64 s.data.toList=.ok n)\/((∃ a b,ev=.iface a b)/\∀ m,Lib.parseIntB 64 s.data.toList≠.ok m)):=by
  have en:znD Tryz.prog zdg:=fun args w=>Tryz.call175 args w
  rw [<- zAK]
  cases hp:Lib.atoiAll s.data.toList with
  |ok v =>
    refine ⟨en,(Tryz.strconv_Atoi_ok s (by omega) v hp w).mono fun e w' ⟨he,hw⟩=>⟨_,he,?_,v,.nilIface,rfl,.inl ⟨rfl,rfl⟩⟩⟩
    rcases hw with rfl|⟨t,rfl⟩
    · exact Ext.refl _
    · exact Lib.bytesWorld_below w 5 t
  |range =>
    obtain ⟨ev,h1,h2⟩:=g.eRan
    exact ⟨en,(Tryz.strconv_Atoi_range s hs hp ev w (zw6 h1) h2).mono fun e w' ⟨N,he,_,_,hb⟩=>⟨_,he,hb,_,_,rfl,.inr ⟨⟨_,_,rfl⟩,fun m h=>by cases h⟩⟩⟩
  |_ =>
    obtain ⟨ev,h1,h2⟩:=g.eSyn
    exact ⟨en,(Tryz.strconv_Atoi_syntax s hs hp ev w (zw6 h1) h2).mono fun e w' ⟨N,he,_,_,hb⟩=>⟨_,he,hb,_,_,rfl,.inr ⟨⟨_,_,rfl⟩,fun m h=>by cases h⟩⟩⟩
theorem znF (n:Int) (h:-9223372036854775808<=n/\n<=9223372036854775807) (w:World) (g:GB w):FnP Tryz.prog zbw #[.int .i64 n] w fun v w'=>Ext w w'/\v=.string (ofL (Lib.itoa n)) :=
  ⟨fun args w=>Tryz.call105 args w,(Tryz.strconv_Itoa n h.1 h.2 w g.pow).mono fun e w' ⟨he,k,os,hw⟩=>⟨_,he,by rw [hw]; exact zmu,rfl⟩⟩
structure Jb where
  user:ByteArray
  prio:Int
  nd:Nd
  ask:AT
  aft:List Int
abbrev jcs (j:Jb) (pa:Option Addr) (ca:Nat) (pf:Option Addr) (cf:Nat):List Value:=[.string j.user,.int .i64 j.prio,.int .i64 j.nd.c,.int .i64 j.nd.m,.int .i64 j.nd.g,.int .i64 j.ask.k,.string j.ask.key,.string j.ask.val,.int .i64 j.ask.n,.slice pa j.ask.xs.length ca,.slice pf j.aft.length cf]
abbrev jv (j:Jb) (pa:Option Addr) (ca:Nat) (pf:Option Addr) (cf:Nat):Value:=.agg #[.string j.user,.int .i64 j.prio,.int .i64 j.nd.c,.int .i64 j.nd.m,.int .i64 j.nd.g,.int .i64 j.ask.k,.string j.ask.key,.string j.ask.val,.int .i64 j.ask.n,.slice pa j.ask.xs.length ca,.slice pf j.aft.length cf]
def IsJ (w:World) (j:Jb) (pa:Option Addr) (ca:Nat) (pf:Option Addr):Prop:=IsT w j.ask pa ca/\zdP .i64 w pf j.aft
theorem IsJ.ext {w w':World} {j:Jb} {pa:Option Addr} {ca:Nat} {pf:Option Addr} (h:IsJ w j pa ca pf) (e:Ext w w'):IsJ w' j pa ca pf:=⟨h.1.ext e,h.2.ext e⟩
structure WfJ (j:Jb):Prop where
  user:j.user.size<=9223372036854775807
  prio:InR .i64 j.prio
  nd:rng j.nd
  ask:WfA j.ask
  len:j.aft.length<=9223372036854775807
  aft:∀ x∈j.aft,InR .i64 x
def upA:Int->List Int->Prop
  |_,[] => True
  |a,x::r => 1<=x/\x<=60/\a<x/\upA x r
theorem zAs {l:List Int}:∀ {a:Int} (k:Nat),upA a l->upA a (l.take k):=by
  induction l with
  |nil => intro a k _; simp [upA]
  |cons x r ih =>
    intro a k h
    cases k with
    |zero => simp [upA]
    |succ k => exact ⟨h.1,h.2.1,h.2.2.1,ih k h.2.2.2⟩
def zu1 (a:Int) (l:List Int):Int:=l.getLast?.getD a
theorem zoO {x:Int}:∀ {l:List Int} {a:Int},upA a (l++[x])↔upA a l/\1<=x/\x<=60/\zu1 a l<x
  |[],a => by simp [upA,zu1]
  |y::r,a => by
    have ih:=zoO (l:=r) (a:=y) (x:=x)
    simp only [List.cons_append,upA,ih]
    have:zu1 a (y::r)=zu1 y r:=by
      unfold zu1
      cases r with
      |nil => rfl
      |cons z r => simp [List.getLast?_cons]
    rw [this]
    constructor
    · rintro ⟨h1,h2,h3,h4,h5⟩; exact ⟨⟨h1,h2,h3,h4⟩,h5⟩
    · rintro ⟨⟨h1,h2,h3,h4⟩,h5⟩; exact ⟨h1,h2,h3,h4,h5⟩
theorem zgI {l:List Int}:∀ {a:Int},upA a l->∀ x∈l,1<=x/\x<=60:=by
  induction l with
  |nil => intro a _ x hx; cases hx
  |cons y r ih =>
    intro a h x hx
    rcases List.mem_cons.1 hx with rfl|hx
    · exact ⟨h.1,h.2.1⟩
    · exact ih h.2.2.2 x hx
structure okJ (j:Jb):Prop where
  user:lbB j.user=true
  prio:-1000<=j.prio/\j.prio<=1000
  nd:okN j.nd
  ask:zmh j.ask=0
  len:j.aft.length<=8
  up:upA 0 j.aft
theorem zzD (j:Jb) (pa:Option Addr) (ca:Nat) (pf:Option Addr) (cf:Nat) (w:World) (hJ:IsJ w j pa ca pf) (hW:WfJ j):FnP Tryz.prog zdo #[jv j pa ca pf cf] w fun v w'=>Ext w w'/\∃ e:Int,v=.int .i64 e/\(e=0↔okJ j):=by
  refine znP j.user j.prio j.nd.c j.nd.m j.nd.g j.ask.k j.ask.key j.ask.val j.ask.n pa j.ask.xs.length ca pf j.aft.length cf w _ fun b0 hb0 w1 h1=>(zgs j.user hW.user w1).mono fun v w2 ⟨e2,hv⟩=>⟨e2,_,hv,fun hno w4 h4=>?_,fun hyes=>⟨fun hbad w4 h4=>?_,fun hpr w4 h4=>?_⟩⟩
  · exact ⟨h4,3,rfl,by simp,fun h=>by rw [h.user] at hno; cases hno⟩
  · exact ⟨h4,4,rfl,by simp,fun h=>by have:=h.prio; omega⟩
  refine (zeA j.nd w4).mono fun v w5 ⟨e5,hv⟩=>⟨e5,_,hv,fun hne w7 h7=>⟨h7,_,rfl,fun h=>absurd h hne,fun h=>absurd (zbc.2 h.nd) hne⟩,fun hz w7 h7=>?_⟩
  refine (zoS j.ask pa ca w7 (hJ.1.ext h7) hW.ask).mono fun v w8 ⟨e8,hv⟩=>⟨e8,_,hv,fun hne w10 h10=>⟨h10,_,rfl,fun h=>absurd h hne,fun h=>absurd h.ask hne⟩,fun hz2=>⟨fun hbig w10 h10=>⟨h10,2,rfl,by simp,fun h=>by have:=h.len; omega⟩,fun hle=>?_⟩⟩
  refine ⟨fun last k w'=>w'=w/\0<=k/\k<=j.aft.length/\upA 0 (j.aft.take k.toNat)/\last=zu1 0 (j.aft.take k.toNat),fun _ k _=>(j.aft.length-k).toNat,⟨rfl,by omega,by omega,by simp [upA],by simp [zu1]⟩,?_⟩
  rintro last k w' ⟨rfl,hk0,hk1,hup,rfl⟩
  have all:∀ e:Int,(upA 0 j.aft->False)->e≠0->(e=0↔okJ j):=fun e h he=>⟨fun h'=>absurd h' he,fun h'=>(h h'.up).elim⟩
  refine ⟨fun hlt=>?_,fun hge w14 h14=>⟨h14,0,rfl,fun _=>⟨hyes,⟨by omega,by omega⟩,zbc.1 hz,hz2,by omega,by rw [List.take_of_length_le (by omega)] at hup; exact hup⟩,fun _=>rfl⟩⟩
  have g:=zdP.idx hJ.2 hk0 hlt
  have hget:j.aft.take (k.toNat+1)=j.aft.take k.toNat++[j.aft.getD k.toNat 0]:=by
    rw [List.take_succ_eq_append_getElem (by omega)]
    congr 2
    simp [List.getD_eq_getElem?_getD,show k.toNat<j.aft.length by omega]
  refine ⟨fun hq=>zai g (zah.2 hq),hk0,hlt,_,g,fun hbad w15 h15=>⟨h15,4,rfl,all 4 (fun h=>?_) (by decide)⟩,fun hin=>⟨fun hle2 w15 h15=>⟨h15,6,rfl,all 6 (fun h=>?_) (by decide)⟩,fun hgt=>⟨i64 (by omega),⟨rfl,by omega,by omega,?_,?_⟩,by simp only []; omega⟩⟩⟩
  · have:=zAs (k.toNat+1) h
    rw [hget,zoO] at this
    omega
  · have:=zAs (k.toNat+1) h
    rw [hget,zoO] at this
    omega
  · rw [show (k+1).toNat=k.toNat+1 by omega,hget,zoO]
    exact ⟨hup,hin.1,hin.2,hgt⟩
  · rw [show (k+1).toNat=k.toNat+1 by omega,hget]
    simp [zu1]
def zqA (l:List Int):List UInt8:=if l=[] then [45] else Lib.join (l.map Lib.itoa) [44]
theorem zCh {l:List Int} (h:l.length<=8) (hr:∀ x∈l,InR .i64 x):(zqA l).length<=200:=by
  unfold zqA
  split
  · simp
  · have:=zhM (c:=44) (m:=21) (l.map Lib.itoa) (fun y hy=>by
      obtain ⟨x,hx,rfl⟩:=List.mem_map.1 hy
      have:=zLF (hr x hx)
      exact Lib.itoa_length_le x this.1 this.2)
    rw [List.length_map] at this
    omega
theorem zJp (l:List Int) (p:Option Addr) (c:Nat) (w:World) (hp:zdP .i64 w p l) (h8:l.length<=8) (hr:∀ x∈l,InR .i64 x) (g:GB w):FnP Tryz.prog zkq #[.slice p l.length c] w fun v w'=>Ext w w'/\v=.string (ofL (zqA l)):=by
  refine zvB p l.length c w _ ⟨fun h0 w0 e0=>⟨e0,?_⟩,fun hne=>?_⟩
  · have:l=[]:=List.eq_nil_of_length_eq_zero (by omega)
    subst this
    rfl
  have hl:l≠[]:=fun h=>hne (by rw [h]; rfl)
  refine ⟨fun out outl outc k w'=>Ext w w'/\0<=k/\k<=l.length/\Own w.heap.size w' zay 1 out outl outc (((l.take k.toNat).map Lib.itoa).map fun y=>Value.string (ofL y)),fun _ _ _ k _=>(l.length-k).toNat,⟨Ext.refl _,by omega,by omega,Own.nil⟩,?_⟩
  rintro out outl outc k w3 ⟨x3,hk0,hk1,o3⟩
  refine ⟨fun hlt=>?_,fun hge w4 h4=>?_⟩
  · have gc:=zdP.idx (hp.ext x3) hk0 hlt
    have hol:=o3.leni
    have hm:=hr _ (zap l 0 (i:=k.toNat) (by omega))
    refine ⟨fun hq=>zai gc (zah.2 hq),hk0,hlt,_,gc,fun w5 h5=>(znF _ (zLF hm) w5 ((g.ext x3).ext h5)).mono fun v w6 ⟨e6,hv⟩=>⟨e6,_,hv,?_⟩⟩
    simp only [List.length_map,List.length_take] at hol
    refine push zbX (by omega) o3 x3.size rfl (by intro u hu; simp [Value.cells] at hu; subst hu; rfl) (by omega) (by omega) (by omega) fun p' c' w' o' g' _=>⟨i64 (by omega),⟨g'.ext x3 o3,by omega,by omega,?_⟩,by simp only []; omega⟩
    rw [show (k+1).toNat=k.toNat+1 by omega,List.take_succ_eq_append_getElem (by omega),List.map_append,List.map_append]
    simpa [Value.cells,List.getD_eq_getElem?_getD,show k.toNat<l.length by omega] using o'
  · have hkl:k.toNat=l.length:=by omega
    rw [hkl,List.take_length] at o3
    refine (zBW (l.map Lib.itoa) 44 out outl outc w.heap.size zay w4 (o3.ext h4) (by simpa using hl) ?_).mono fun v w5 ⟨e5,hv⟩=>⟨e5,_,hv,fun w7 h7=>⟨x3.trans h7,?_⟩⟩
    · have:=zCh h8 hr
      unfold zqA at this
      rw [if_neg hl] at this
      omega
    · unfold zqA; rw [if_neg hl]
def jps (j:Jb):List (List UInt8):=[j.user.data.toList,Lib.itoa j.prio,zbq j.nd,zqA j.aft,txt j.ask]
def jtx (j:Jb):List UInt8:=Lib.join (jps j) [32]
theorem okJ.rng {j:Jb} (h:okJ j):∀ x∈j.aft,InR .i64 x:=fun x hx=>by have:=zgI h.up x hx; exact i64 (by omega)
theorem zHQ {x:Nd} (hx:rng x):(zbq x).length<=78:=by
  unfold zbq
  split
  · simp
  · exact zzE hx
theorem zDv {j:Jb} (h:okJ j) (hn:nod j.ask<=1048576):∀ y∈jps j,y.length<=3000:=by
  have h1:=zcZ h.user
  have h2:=Lib.itoa_length_le j.prio (by have:=h.prio; omega) (by have:=h.prio; omega)
  have h3:=zHQ h.nd.rng
  have h4:=zCh h.len h.rng
  obtain ⟨h5,h6⟩:=zpg.1 h.ask
  have h7:=ztO j.ask h6
  rw [zsD j.ask hn] at h5
  intro y hy
  unfold jps at hy
  simp only [List.mem_cons,List.not_mem_nil,or_false] at hy
  rcases hy with rfl|rfl|rfl|rfl|rfl
  · rw [zo4]; omega
  · omega
  · omega
  · omega
  · omega
theorem zxC (j:Jb) (pa:Option Addr) (ca:Nat) (pf:Option Addr) (cf:Nat) (w:World) (hJ:IsJ w j pa ca pf) (hW:WfJ j) (hn:nod j.ask<=1048576) (g:GB w):FnP Tryz.prog zeg #[jv j pa ca pf cf] w fun v w'=>Ext w w'/\∃ (t:ByteArray) (e:Int),v=.tuple #[.string t,.int .i64 e]/\(e=0↔okJ j)/\(e≠0->t=emS)/\(e=0->t=ofL (jtx j)):=by
  refine zxZ j.user j.prio j.nd.c j.nd.m j.nd.g j.ask.k j.ask.key j.ask.val j.ask.n pa j.ask.xs.length ca pf j.aft.length cf w _ fun b0 hb0 w1 h1=>(zzD j pa ca pf cf w1 (hJ.ext h1) hW).mono fun v w2 ⟨e2,e,hv,he⟩=>⟨e2,e,hv,fun hne w4 h4=>⟨h4,emS,e,rfl,he,fun _=>rfl,fun h=>absurd h hne⟩,fun hz w4 h4=>?_⟩
  have ho:=he.1 hz
  refine (zDL j.nd w4 (g.ext h4)).mono fun v w5 ⟨e5,t5,f5,hv,hf,_,ht5⟩=>⟨e5,t5,f5,hv,fun w8 h8=>?_⟩
  have ht5:=ht5 (hf.2 ho.nd)
  refine (zH9 j.ask pa ca w8 (hJ.1.ext h8) hW.ask hn ⟨(g.ext h8).pow⟩).mono fun v w9 ⟨e9,hor⟩=>?_
  rcases hor with ⟨hne,_⟩|⟨_,hv⟩
  · exact absurd ho.ask hne
  refine ⟨e9,_,_,hv,fun w12 h12=>(znF j.prio (zLF hW.prio) w12 (g.ext h12)).mono fun v w13 ⟨e13,hv⟩=>⟨e13,_,hv,fun w15 h15=>(zJp j.aft pf cf w15 (hJ.2.ext h15) ho.len ho.rng (g.ext h15)).mono fun v w16 ⟨e16,hv⟩=>⟨e16,_,hv,fun w18 x18=>?_⟩⟩⟩
  have h18:=zaa x18
  refine zcE zbX [.string j.user,.string (ofL (Lib.itoa j.prio)),.string t5,.string (ofL (zqA j.aft)),.string (ofL (txt j.ask))] rfl rfl (by intro v hv; simp at hv; rcases hv with rfl|rfl|rfl|rfl|rfl<;>rfl) (by omega) (by omega) fun w19 o19 e19=>⟨e19,_,_,_,rfl,fun w23 h23=>?_⟩
  have o23:=(o19 w18.heap.size (Nat.le_refl _)).ext h23
  have hrow:([.string j.user,.string (ofL (Lib.itoa j.prio)),.string t5,.string (ofL (zqA j.aft)),.string (ofL (txt j.ask))]:List Value).flatMap (fun v=>v.cells.toList)=(jps j).map fun l=>Value.string (ofL l):=by
    rw [ht5]
    simp [Value.cells,jps,zb9]
  rw [hrow] at o23
  refine (zBW (jps j) 32 _ _ _ _ zay w23 o23 (by simp [jps]) ?_).mono fun v w24 ⟨e24,hv⟩=>⟨e24,_,hv,fun w26 h26=>⟨(h18.trans e19).trans h26,_,0,rfl,⟨fun _=>ho,fun _=>rfl⟩,fun h=>absurd rfl h,fun _=>rfl⟩⟩
  have:=zhM (c:=32) (m:=3000) (jps j) (zDv ho hn)
  simp only [jps,List.length_cons,List.length_nil] at this ⊢
  omega
theorem zs4 {c d:UInt8}:∀ (L:List (List UInt8)),c∈Lib.join L [d]->c=d\/∃ y∈L,c∈y
  |[],h => by rw [Lib.join_nil] at h; cases h
  |[x],h => by rw [Lib.join_one] at h; exact .inr ⟨x,List.mem_cons_self ..,h⟩
  |x::y::L,h => by
    have e:Lib.join (x::y::L) [d]=x++d::Lib.join (y::L) [d]:=by
      rw [Lib.join_cons,Lib.join_cons]
      simp [Lib.joinTail]
    rw [e] at h
    rcases List.mem_append.1 h with h|h
    · exact .inr ⟨x,List.mem_cons_self ..,h⟩
    · rcases List.mem_cons.1 h with h|h
      · exact .inl h
      · rcases zs4 (y::L) h with h|⟨z,hz,h⟩
        · exact .inl h
        · exact .inr ⟨z,List.mem_cons_of_mem _ hz,h⟩
theorem zzK {s:ByteArray} (h:lbB s=true) {c:UInt8} (hc:okC (c.toNat:Int)=false):c∉s.data.toList:=fun hm=>by
  unfold lbB at h
  simp only [Bool.and_eq_true] at h
  have:=List.all_eq_true.1 h.2 (c.toNat:Int) (List.mem_map.2 ⟨c,hm,rfl⟩)
  rw [hc] at this; cases this
theorem un_not {s:ByteArray} (h:unB s=true) {c:UInt8} (h1:c∉zBJ.data.toList) (h2:c∉memS.data.toList) (h3:c∉gpuS.data.toList):c∉s.data.toList:=by
  unfold unB at h
  simp only [Bool.or_eq_true,decide_eq_true_eq] at h
  rcases h with (h|h)|h<;>(subst h; assumption)
theorem zly {n:Int} {c:UInt8} (h1:c≠45) (h2:c.toNat<48\/57<c.toNat):c∉Lib.itoa n:=fun hm=>by
  rcases zGP c hm with h|h
  · exact h1 h
  · omega
theorem nd_not {x:Nd}:(32:UInt8)∉zbq x:=fun hm=>by
  unfold zbq at hm
  split at hm
  · simp at hm
  · rcases zs4 _ hm with h|⟨y,hy,h⟩
    · exact absurd h (by decide)
    · obtain ⟨i,hi,rfl⟩:=List.mem_map.1 hy
      have hi:=(zpu hi).1
      unfold zgF at h
      rcases List.mem_append.1 h with h|h
      · revert h
        match i,hi with
        |0,_ => decide
        |1,_ => decide
        |2,_ => decide
      · rcases List.mem_cons.1 h with h|h
        · exact absurd h (by decide)
        · exact zly (by decide) (by decide) h
theorem zJo {l:List Int}:(32:UInt8)∉zqA l:=fun hm=>by
  unfold zqA at hm
  split at hm
  · simp at hm
  · rcases zs4 _ hm with h|⟨y,hy,h⟩
    · exact absurd h (by decide)
    · obtain ⟨x,hx,rfl⟩:=List.mem_map.1 hy
      exact zly (by decide) (by decide) h
theorem zJw:∀ t:AT,zeY t=0->(32:UInt8)∉txt t:=by
  intro t
  induction t using AT.ind with
  |h k key val n xs ih =>
    intro he hm
    rcases znl he with ⟨key,h,hkey,ht⟩|⟨key,val,h,hkey,hval,ht⟩|⟨key,m,h,hkey,hm0,_,ht⟩|⟨x,h,hx,ht,hnx⟩|⟨k,x,y',hk',h,hx,hy,ht,hnx⟩
    · rw [ht] at hm
      rcases List.mem_cons.1 hm with h|h
      · exact absurd h (by decide)
      · exact zzK hkey (by decide) h
    · rw [ht] at hm
      rcases List.mem_append.1 hm with h|h
      · exact zzK hkey (by decide) h
      · rcases List.mem_cons.1 h with h|h
        · exact absurd h (by decide)
        · exact zzK hval (by decide) h
    · rw [ht] at hm
      rcases List.mem_append.1 hm with h|h
      · exact un_not hkey (by decide) (by decide) (by decide) h
      · simp only [List.mem_cons] at h
        rcases h with h|h|h
        · exact absurd h (by decide)
        · exact absurd h (by decide)
        · exact zly (by decide) (by decide) h
    · injection h with _ _ _ _ h5
      rw [ht] at hm
      rcases List.mem_cons.1 hm with h|h
      · exact absurd h (by decide)
      · exact ih x (by rw [h5]; simp) hx h
    · injection h with _ _ _ _ h5
      rw [ht] at hm
      simp only [List.mem_cons,List.mem_append,List.not_mem_nil,or_false] at hm
      rcases hm with h|h|h|h|h
      · exact absurd h (by decide)
      · exact ih x (by rw [h5]; simp) hx h
      · rcases hk' with rfl|rfl
        · exact absurd h (by decide)
        · exact absurd h (by decide)
      · exact ih y' (by rw [h5]; simp) hy h
      · exact absurd h (by decide)
theorem zKs {j:Jb} (h:okJ j):∀ y∈jps j,(32:UInt8)∉y:=by
  intro y hy
  unfold jps at hy
  simp only [List.mem_cons,List.not_mem_nil,or_false] at hy
  rcases hy with rfl|rfl|rfl|rfl|rfl
  · exact zzK h.user (by decide)
  · exact zly (by decide) (by decide)
  · exact nd_not
  · exact zJo
  · exact zJw _ (zpg.1 h.ask).2
theorem zy0 {l:List Int} (h:zqA l=[45]):l=[]\/∃ x,l=[x]/\Lib.itoa x=[45]:=by
  unfold zqA at h
  split at h
  · rename_i h0; exact .inl h0
  · cases l with
    |nil => exact .inl rfl
    |cons x r =>
      cases r with
      |nil => exact .inr ⟨x,rfl,by simpa [Lib.join_one] using h⟩
      |cons y r =>
        simp only [List.map_cons] at h
        rw [Lib.join_cons] at h
        have hx:Lib.itoa x≠[]:=by
          unfold Lib.itoa
          split
          · simp
          · exact zpd _
        have hy:Lib.joinTail [44] (Lib.itoa y::r.map Lib.itoa)≠[]:=by
          intro h0
          have:=Lib.joinTail_length [44] (Lib.itoa y::r.map Lib.itoa)
          rw [h0] at this
          simp at this
          omega
        have:=congrArg List.length h
        rw [List.length_append] at this
        have h1:=List.length_pos_iff.2 hx
        have h2:=List.length_pos_iff.2 hy
        simp at this
        omega
def zdw:Jb:=⟨emS,0,za7,zju,[]⟩
theorem zih:WfJ zdw:=⟨by decide,i64 (by decide),fun i hi=>by
  match i,hi with
  |0,_ => simp [zce,zdw,za7]
  |1,_ => simp [zce,zdw,za7]
  |2,_ => simp [zce,zdw,za7],zqy,by decide,fun x hx => by cases hx⟩
theorem zoQ (w:World):IsJ w zdw none 0 none:=⟨zmg w,zav.nil⟩
structure JT (s:ByteArray) (j:Jb):Prop where
  ok:okJ j
  nod:nod j.ask<=1048576
  is:s=ofL (jtx j)
  ask:(txt j.ask).length<=2000
theorem zgl {s:ByteArray} {j:Jb} (h:JT s j):Lib.countB s (one 32)=4/\Lib.splitB (one 32) 0 4 s=(jps j).map ofL:=by
  have:=zdA (c:=32) [Lib.itoa j.prio,zbq j.nd,zqA j.aft,txt j.ask] j.user.data.toList (by simpa [jps] using zKs h.ok)
  rw [h.is]
  exact this
theorem zqb {l:List Int} (hl:l≠[]):Lib.countB (ofL (zqA l)) (one 44)+1=l.length/\Lib.splitB (one 44) 0 (Lib.countB (ofL (zqA l)) (one 44)) (ofL (zqA l))=(l.map Lib.itoa).map ofL:=by
  cases l with
  |nil => exact absurd rfl hl
  |cons a r =>
    have h:=zdA (c:=44) (r.map Lib.itoa) (Lib.itoa a) (by
      intro y hy
      rw [<- List.map_cons] at hy
      obtain ⟨x,_,rfl⟩:=List.mem_map.1 hy
      exact zly (by decide) (by decide))
    have e:zqA (a::r)=Lib.join (Lib.itoa a::r.map Lib.itoa) [44]:=by unfold zqA; rw [if_neg (by simp)]; rfl
    rw [e,h.1]
    refine ⟨by simp,?_⟩
    rw [List.length_map] at h ⊢
    simpa using h.2
end Go.Proofs.YtcceeahmcecbnaaGreatDoor
namespace Go.Proofs.YtcceeahmcecbnaaGreatDoor
open Go.Sx Go.RowKit Go.ChangeShapes Go.WideShapes Go.ChangeAt
section
variable {P:Program} {H:Type} {enc:TypeId×Value->H}
end
section
variable {P:Program} {H:Type} {enc:TypeId×Value->H}
end
theorem zDu {W:World} {j_0:ByteArray} (h0:j_0.size<=9223372036854775807) {j_1:Int} (h1:InR .i64 j_1) {j_2:Int} (h2:InR .i64 j_2) {j_3:Int} (h3:InR .i64 j_3) {j_4:Int} (h4:InR .i64 j_4) {j_5:Int} (h5:InR .i64 j_5) {j_6:ByteArray} (h6:j_6.size<=9223372036854775807) {j_7:ByteArray} (h7:j_7.size<=9223372036854775807) {j_8:Int} (h8:InR .i64 j_8)
    {p:Option Addr} {l c:Nat} (hA:zaA Tryz.prog W zdQ p l c) {q:Option Addr} {m d:Nat} (hF:zaA Tryz.prog W zd8 q m d) :
    ∃ j:Jb,IsJ W j p c q/\WfJ j/\jcs j p c q d=[.string j_0,.int .i64 j_1,.int .i64 j_2,.int .i64 j_3,.int .i64 j_4,.int .i64 j_5,.string j_6,.string j_7,.int .i64 j_8,.slice p l c,.slice q m d]:=by
  obtain ⟨x,rfl,rfl,rfl,rfl,rfl,hT,hW⟩:=zJv hA h5 h6 h7 h8
  obtain ⟨xs,rfl,hx,hi⟩:=hF.ints (k:=.i64) (by kernel_rfl) (by kernel_rfl)
  refine ⟨⟨j_0,j_1,⟨j_2,j_3,j_4⟩,x,xs⟩,⟨hT,hi⟩,⟨h0,h1,fun i hi=>?_,hW,by have:=hF.le; have:=hF.max; show xs.length<=_; omega,hx⟩,rfl⟩
  match i,hi with
  |0,_ => exact zLF h2
  |1,_ => exact zLF h3
  |2,_ => exact zLF h4
theorem zs1 {P:Program} {W:World} {l:List (String×DataW Unit)} (h:laidMetH P l W) (hp:(l.all fun x=>x.2.handleName?.isNone)=true) {name:String} {zs:List Int} {k:IntKind}
    (hm:(name,Lib.tabData k zs)∈l) {g:Nat} {t e:TypeId} {n:Nat} (hg:P.globalNamed name=some g) (hty:(P.globals[g]?).map (·.type)=some t)
    (ht:P.underlying t=some (.array n e)) (he:P.underlying e=some (.int k)) (hce:P.cellsOf e=1) (hct:P.cellsOf t=n):Lib.TabIs P W name k zs:=by
  have hnone:(l.filter fun x=>x.2.handleName?.isSome)=[]:=by
    rw [List.filter_eq_nil_iff]
    intro a ha hs
    have:=List.all_eq_true.1 hp a ha
    cases hh:a.2.handleName?<;>simp_all
  have h:laidMet P l W:=by
    unfold laidMetH at h
    rw [hnone] at h
    exact h
  obtain ⟨ps,hL,_⟩:=h
  obtain ⟨g',t',cs,fuel,p,h1,h2,h3,h4⟩:=zeI hL _ hm
  obtain rfl:=Option.some.inj (hg.symm.trans h1)
  obtain rfl:=Option.some.inj (hty.symm.trans h2)
  unfold Lib.TabIs
  rw [h3,<- Lib.cells_of_tab ht he hce hct h4]
theorem zzI {P:Program} {W:World} {l:List (String×DataW Unit)} (h:laidMetH P l W) (hp:(l.all fun x=>x.2.handleName?.isNone)=true) {name:String} {d:DataW Unit}
    (hm:(name,d)∈l) {g:Nat} {t:TypeId} (hg:P.globalNamed name=some g) (hty:(P.globals[g]?).map (·.type)=some t) (ht:zuX P t=true):∃ v,cell W (some (⟨g,0,none⟩:Addr)) 0=some v/\isErr v:=by
  have hnone:(l.filter fun x=>x.2.handleName?.isSome)=[]:=by
    rw [List.filter_eq_nil_iff]
    intro a ha hs
    have:=List.all_eq_true.1 hp a ha
    cases hh:a.2.handleName?<;>simp_all
  have h:laidMet P l W:=by
    unfold laidMetH at h
    rw [hnone] at h
    exact h
  obtain ⟨ps,hL,_⟩:=h
  obtain ⟨g',t',cs,fuel,p,h1,h2,h3,h4⟩:=zeI hL _ hm
  obtain rfl:=Option.some.inj (hg.symm.trans h1)
  obtain rfl:=Option.some.inj (hty.symm.trans h2)
  have h5:=World.var?_cell hg h3 0
  unfold zuX at ht
  split at ht
  · rename_i m hu
    cases fuel with
    |zero => simp [DataW.trod] at h4
    |succ n =>
      unfold DataW.trod at h4
      rw [hu] at h4
      generalize hL':cs.toList=L at h4
      have hc:cs[0]?=L[0]?:=by rw [<- hL']; simp
      have fin:∀ v,L=[v]->isErr v->∃ v,cell W (some (⟨g,0,none⟩:Addr)) 0=some v/\isErr v:=fun v hv he=>by
        refine ⟨v,?_,he⟩
        simp only [cell,Option.bind_some,add_zero]
        rw [h5,hc,hv]; rfl
      match L,h4,fin with
      |[],h4,_ => simp at h4
      |[.nilIface],_,fin => exact fin _ rfl (.inl rfl)
      |[.iface a b],_,fin => exact fin _ rfl (.inr ⟨a,b,rfl⟩)
      |x::y::r,h4,_ => simp at h4
      |[.int _ _],h4,_|[.bool _],h4,_|[.string _],h4,_|[.float _ _],h4,_|[.complex _ _ _],h4,_|[.pointer _],h4,_|[.slice _ _ _],h4,_|[.agg _],h4,_|[.tuple _],h4,_ => simp at h4
      |[x],h4,fin => cases x<;>first|exact fin _ rfl (.inl rfl)|exact fin _ rfl (.inr ⟨_,_,rfl⟩)|simp at h4
  · cases ht
theorem zuU {P:Program} {w:World} {g:Nat} {t:TypeId} {k:IntKind} {zero:Array Value} (h:w.ShapedOpen P) (hg:g<P.globals.size)
    (h0:((begin P (fun _ _=>0) default).world.heap[g]?).bind Obj.row?=some (zero,t)) (hz:zero.size=1)
    (hb:P.buildable t=true) (hc:P.cellTypes P.depth t=some [t]) (hu:P.underlying t=some (.int k)):∃ m,cell w (some (⟨g,0,none⟩:Addr)) 0=some (.int k m):=by
  obtain ⟨cs,hh,hs,hr⟩:=h.1 g zero t hg h0
  obtain ⟨ts,hts,_,hall⟩:=hr hb
  rw [hc] at hts
  cases hts
  have h1:0<cs.size:=by omega
  obtain ⟨u,hu',hok⟩:=hall 0 cs[0] (by simp [h1])
  have:u=t:=by simpa using hu'.symm
  subst this
  have hcell:cell w (some (⟨g,0,none⟩:Addr)) 0=some cs[0]:=by simp [cell,add_zero,World.cell?,hh,h1]
  rw [hcell]
  unfold Cell.ok at hok
  rw [hu] at hok
  cases hv:cs[0]<;>rw [hv] at hok<;>first|(simp at hok; obtain ⟨rfl,_⟩:=hok; exact ⟨_,rfl⟩)|(simp at hok; subst hok; exact ⟨_,rfl⟩)|simp at hok
theorem gb_of {W:World} {l:List (String×DataW Unit)} (h:laidMetH Tryz.prog l W) (hsp:W.ShapedOpen Tryz.prog) (hp:(l.all fun x=>x.2.handleName?.isNone)=true)
    (h2 : ("internal/strconv.uint64pow10", (Rows.laid_internal_strconv_uint64pow10 : DataW Unit)) ∈ l)
    (h3 : ("strconv.ErrRange", (Rows.laid_strconv_ErrRange : DataW Unit)) ∈ l) (h4 : ("strconv.ErrSyntax", (Rows.laid_strconv_ErrSyntax : DataW Unit)) ∈ l) : GB W :=
  ⟨zs1 h hp (k := .u64) (zs := Lib.pow10Tab) (by exact h2) (g := (Tryz.prog.globalNamed "internal/strconv.uint64pow10").getD 0) (t := (Tryz.prog.globals[(Tryz.prog.globalNamed "internal/strconv.uint64pow10").getD 0]?).elim 0 (·.type)) (e := zoo) (n := 20) (by kernel_rfl) (by kernel_rfl) (by kernel_rfl) (by kernel_rfl) (by kernel_rfl) (by kernel_rfl),
    zuU (zero:=#[.int .i64 0]) hsp (g:=5) (t:=(Tryz.prog.globals[5]?).elim 0 (·.type)) (of_decide_eq_true (by kernel_rfl)) (by kernel_rfl) rfl (by kernel_rfl) (by kernel_rfl) (by kernel_rfl),
    zzI h hp h4 (g:=2) (t:=(Tryz.prog.globals[2]?).elim 0 (·.type)) (by kernel_rfl) (by kernel_rfl) (by kernel_rfl),
    zzI h hp h3 (g:=3) (t:=(Tryz.prog.globals[3]?).elim 0 (·.type)) (by kernel_rfl) (by kernel_rfl) (by kernel_rfl)⟩
end Go.Proofs.YtcceeahmcecbnaaGreatDoor
namespace Go.Proofs.YtcceeahmcecbnaaGreatDoor
open Go.Sx Go.RowKit
def num (n:Int) (k:Nat):Bs:=(List.range k).map fun (j:Nat)=>ub (zan .shr .i64 n (8*((k:Int)-1-j)))
structure Ev where
  kind:Int
  job:Jb
  n:Int
  id:Int
  ok:Bool
abbrev evcs (x:Ev) (pa:Option Addr) (ca:Nat) (pf:Option Addr) (cf:Nat):List Value:=[.int .i64 x.kind,.string x.job.user,.int .i64 x.job.prio,.int .i64 x.job.nd.c,.int .i64 x.job.nd.m,.int .i64 x.job.nd.g,.int .i64 x.job.ask.k,.string x.job.ask.key,.string x.job.ask.val,.int .i64 x.job.ask.n,.slice pa x.job.ask.xs.length ca,.slice pf x.job.aft.length cf,.int .i64 x.n,.int .i64 x.id,.bool x.ok]
abbrev evv (x:Ev) (pa:Option Addr) (ca:Nat) (pf:Option Addr) (cf:Nat):Value:=.agg #[.int .i64 x.kind,.string x.job.user,.int .i64 x.job.prio,.int .i64 x.job.nd.c,.int .i64 x.job.nd.m,.int .i64 x.job.nd.g,.int .i64 x.job.ask.k,.string x.job.ask.key,.string x.job.ask.val,.int .i64 x.job.ask.n,.slice pa x.job.ask.xs.length ca,.slice pf x.job.aft.length cf,.int .i64 x.n,.int .i64 x.id,.bool x.ok]
theorem zE9 {j:Jb}:j=zdw↔j.user=emS/\j.prio=0/\j.nd=za7/\j.aft.length=0/\j.ask.k=0/\j.ask.key=emS/\j.ask.val=emS/\j.ask.n=0/\j.ask.xs.length=0:=by
  constructor
  · rintro rfl; exact ⟨rfl,rfl,rfl,rfl,rfl,rfl,rfl,rfl,rfl⟩
  · rintro ⟨h1,h2,h3,h4,h5,h6,h7,h8,h9⟩
    obtain ⟨u,p,nd,t,af⟩:=j
    simp only at h1 h2 h3 h4 h5 h6 h7 h8 h9
    subst h1 h2 h3
    have h4':af=[]:=List.eq_nil_of_length_eq_zero h4
    subst h4'
    have:t=zju:=by
      rw [AT.eta t,h5,h6,h7,h8,List.eq_nil_of_length_eq_zero h9]
    rw [this]; rfl
theorem zEb (j:Jb) (pa:Option Addr) (ca:Nat) (pf:Option Addr) (cf:Nat) (w:World):FnP Tryz.prog zhm #[jv j pa ca pf cf] w fun v w'=>Ext w w'/\∃ b:Bool,v=.bool b/\(b=true↔j=zdw):=by
  refine zqZ j.user j.prio j.nd.c j.nd.m j.nd.g j.ask.k j.ask.key j.ask.val j.ask.n pa j.ask.xs.length ca pf j.aft.length cf w _ fun b0 hb0=>⟨fun h w1 h1=>?_,fun h w1 h1=>⟨h1,false,rfl,by simp,fun hj=>?_⟩⟩
  · refine eqN_k (a:=j.nd) (b:=za7) ⟨Ext.refl _,_,rfl,fun w4 h4=>⟨h4,_,rfl,?_⟩⟩
    simp only [Bool.and_eq_true,decide_eq_true_eq]
    rw [zE9]
    constructor
    · rintro ⟨⟨⟨⟨⟨⟨a1,a2⟩,a3⟩,a4⟩,a5⟩,a6⟩,a7⟩
      exact ⟨h.1,h.2,a1,by omega,a3,a4,a5,a6,by omega⟩
    · rintro ⟨_,_,a1,a2,a3,a4,a5,a6,a7⟩
      exact ⟨⟨⟨⟨⟨⟨a1,by omega⟩,a3⟩,a4⟩,a5⟩,a6⟩,by omega⟩
  · rw [hj] at h
    rcases h with h|h<;>exact absurd rfl h
def okE (x:Ev):Prop:=(x.kind=1/\okJ x.job/\x.n=0/\x.id=0/\x.ok=false)\/(x.kind=2/\x.job=zdw/\(0<=x.n/\x.n<=1000000000)/\x.id=0/\x.ok=false)\/(x.kind=3/\x.job=zdw/\x.n=0/\x.id=0/\x.ok=false) \/
  (x.kind=4/\x.job=zdw/\x.n=0/\(0<=x.id/\x.id<=65535))\/(x.kind=5/\x.job=zdw/\x.n=0/\(0<=x.id/\x.id<=65535)/\x.ok=false)
theorem zlJ {x:Ev} (h:okE x):1<=x.kind/\x.kind<=5:=by
  rcases h with h|h|h|h|h<;>omega
def enc (x:Ev):Bs:=ub x.kind::(if x.kind=1 then jtx x.job else if x.kind=2 then num x.n 4 else if x.kind=4 then num x.id 2++[if x.ok=true then 1 else 0] else if x.kind=5 then num x.id 2 else [])
structure EvR where
  x:Ev
  pa:Option Addr
  ca:Nat
  pf:Option Addr
  cf:Nat
abbrev zwJ (r:EvR):List Value:=evcs r.x r.pa r.ca r.pf r.cf
end Go.Proofs.YtcceeahmcecbnaaGreatDoor
namespace Go.Proofs.YtcceeahmcecbnaaGreatDoor
open Go.Sx Go.RowKit Go.ChangeShapes Go.WideShapes Go.ChangeAt
theorem zGv {W:World} {n:Nat} {es:List Value} (hg:Go.Sx.Good Tryz.prog W n zfu es):∃ r:EvR,es=zwJ r/\WfJ r.x.job/\IsJ W r.x.job r.pa r.ca r.pf:=by
  have hlv:=zcM (P:=Tryz.prog) 6 zfu [zd8,zay,zd8,zdd,zdd,zdd,zd8,zay,zay,zdd,zck,zjC,zdd,zd8,zug] n es (by kernel_rfl) hg
  obtain ⟨v0,r0,rfl,l0,hlv⟩:=zaj hlv
  obtain ⟨v1,r1,rfl,l1,hlv⟩:=zaj hlv
  obtain ⟨v2,r2,rfl,l2,hlv⟩:=zaj hlv
  obtain ⟨v3,r3,rfl,l3,hlv⟩:=zaj hlv
  obtain ⟨v4,r4,rfl,l4,hlv⟩:=zaj hlv
  obtain ⟨v5,r5,rfl,l5,hlv⟩:=zaj hlv
  obtain ⟨v6,r6,rfl,l6,hlv⟩:=zaj hlv
  obtain ⟨v7,r7,rfl,l7,hlv⟩:=zaj hlv
  obtain ⟨v8,r8,rfl,l8,hlv⟩:=zaj hlv
  obtain ⟨v9,r9,rfl,l9,hlv⟩:=zaj hlv
  obtain ⟨va,ra,rfl,la,hlv⟩:=zaj hlv
  obtain ⟨vb,rb,rfl,lb,hlv⟩:=zaj hlv
  obtain ⟨vc,rc,rfl,lc,hlv⟩:=zaj hlv
  obtain ⟨vd,rd,rfl,ld,hlv⟩:=zaj hlv
  obtain ⟨ve,re,rfl,le,hlv⟩:=zaj hlv
  obtain rfl:=zhN hlv
  obtain ⟨x0,rfl,h0⟩:=zaJ (k:=.i64) (by kernel_rfl) l0
  obtain ⟨x1,rfl,h1⟩:=zc0 (by kernel_rfl) l1
  obtain ⟨x2,rfl,h2⟩:=zaJ (k:=.i64) (by kernel_rfl) l2
  obtain ⟨x3,rfl,h3⟩:=zaJ (k:=.i64) (by kernel_rfl) l3
  obtain ⟨x4,rfl,h4⟩:=zaJ (k:=.i64) (by kernel_rfl) l4
  obtain ⟨x5,rfl,h5⟩:=zaJ (k:=.i64) (by kernel_rfl) l5
  obtain ⟨x6,rfl,h6⟩:=zaJ (k:=.i64) (by kernel_rfl) l6
  obtain ⟨x7,rfl,h7⟩:=zc0 (by kernel_rfl) l7
  obtain ⟨x8,rfl,h8⟩:=zc0 (by kernel_rfl) l8
  obtain ⟨x9,rfl,h9⟩:=zaJ (k:=.i64) (by kernel_rfl) l9
  obtain ⟨pa,na,ca,rfl,a1,a2,a3,a4⟩:=zfg (e:=zdQ) (by kernel_rfl) la
  obtain ⟨pf,nf,cf,rfl,f1,f2,f3,f4⟩:=zfg (e:=zd8) (by kernel_rfl) lb
  obtain ⟨xc,rfl,hc⟩:=zaJ (k:=.i64) (by kernel_rfl) lc
  obtain ⟨xd,rfl,hd⟩:=zaJ (k:=.i64) (by kernel_rfl) ld
  obtain ⟨xe,rfl⟩:=zu3 (by kernel_rfl) le
  obtain ⟨j,hJ,hW,e⟩:=zDu h1 h2 h3 h4 h5 h6 h7 h8 h9 ⟨a1,a2,a3,a4⟩ ⟨f1,f2,f3,f4⟩
  have e1:zwJ ⟨⟨x0,j,xc,xd,xe⟩,pa,ca,pf,cf⟩=.int .i64 x0::(jcs j pa ca pf cf++[.int .i64 xc,.int .i64 xd,.bool xe]):=rfl
  rw [e] at e1
  exact ⟨⟨⟨x0,j,xc,xd,xe⟩,pa,ca,pf,cf⟩,e1.symm,hW,hJ⟩
theorem zJ8 {W:World} {p:Option Addr} {l c:Nat} (h:zaA Tryz.prog W zfu p l c):∃ L:List EvR,L.length=l/\zgt 15 zwJ W p L/\∀ r∈L,WfJ r.x.job/\IsJ W r.x.job r.pa r.ca r.pf:=by
  obtain ⟨L,h1,h2,h3⟩:=h.list (α:=EvR) zwJ (fun r=>WfJ r.x.job/\IsJ W r.x.job r.pa r.ca r.pf) (fun n es hg _=>zGv hg)
  refine ⟨L,h1,fun i x hx j u hu=>?_,h2⟩
  have:=h3 i x hx j u hu
  rwa [show Tryz.prog.cellsOf zfu=15 by kernel_rfl] at this
end Go.Proofs.YtcceeahmcecbnaaGreatDoor
namespace Go.Proofs.YtcceeahmcecbnaaGreatDoor
open Go.Sx Go.RowKit
def zC1:Int->List Int->Int
  |_,[] => 0
  |a,x::r => if x<1\/60<x then 4 else if x<=a then 6 else zC1 x r
theorem zxf:∀ (l:List Int) (a:Int),zC1 a l=0↔upA a l
  |[],a => by simp [zC1,upA]
  |x::r,a => by
    have ih:=zxf r x
    unfold zC1 upA
    split
    · rename_i h; constructor
      · intro h2; cases h2
      · intro h2; omega
    · split
      · rename_i h; constructor
        · intro h2; cases h2
        · intro h2; omega
      · rw [ih]; constructor
        · intro h2; exact ⟨by omega,by omega,by omega,h2⟩
        · intro h2; exact h2.2.2.2
def zua (j:Jb):Int:=if lbB j.user=false then 3 else if j.prio < -1000\/1000<j.prio then 4 else if zzt j.nd≠0 then zzt j.nd else if zmh j.ask≠0 then zmh j.ask else if 8<j.aft.length then 2 else zC1 0 j.aft
theorem zi2 {j:Jb}:zua j=0↔okJ j:=by
  unfold zua
  constructor
  · intro h
    split at h
    · cases h
    rename_i h1
    split at h
    · cases h
    rename_i h2
    split at h
    · rename_i h3; exact absurd h h3
    rename_i h3
    split at h
    · rename_i h4; exact absurd h h4
    rename_i h4
    split at h
    · cases h
    rename_i h5
    exact ⟨by simpa using h1,by omega,zbc.1 (by omega),by omega,by omega,(zxf _ _).1 h⟩
  · intro h
    have hp:=h.prio
    have hl:=h.len
    rw [if_neg (by rw [h.user]; simp),if_neg (by omega),if_neg (fun g=>g (zbc.2 h.nd)),if_neg (fun g=>g h.ask),if_neg (by omega)]
    exact (zxf _ _).2 h.up
theorem zDr (j:Jb) (pa:Option Addr) (ca:Nat) (pf:Option Addr) (cf:Nat) (w:World) (hJ:IsJ w j pa ca pf) (hW:WfJ j):FnP Tryz.prog zdo #[jv j pa ca pf cf] w fun v w'=>Ext w w'/\v=.int .i64 (zua j):=by
  refine znP j.user j.prio j.nd.c j.nd.m j.nd.g j.ask.k j.ask.key j.ask.val j.ask.n pa j.ask.xs.length ca pf j.aft.length cf w _ fun b0 hb0 w1 h1=>(zgs j.user hW.user w1).mono fun v w2 ⟨e2,hv⟩=>⟨e2,_,hv,fun hno w4 h4=>?_,fun hyes=>⟨fun hbad w4 h4=>?_,fun hpr w4 h4=>?_⟩⟩
  · exact ⟨h4,by unfold zua; rw [if_pos hno]⟩
  · exact ⟨h4,by unfold zua; rw [if_neg (by rw [hyes]; simp),if_pos (by omega)]⟩
  refine (zeA j.nd w4).mono fun v w5 ⟨e5,hv⟩=>⟨e5,_,hv,fun hne w7 h7=>⟨h7,by unfold zua; rw [if_neg (by rw [hyes]; simp),if_neg (by omega),if_pos hne]⟩,fun hz w7 h7=>?_⟩
  refine (zoS j.ask pa ca w7 (hJ.1.ext h7) hW.ask).mono fun v w8 ⟨e8,hv⟩=>⟨e8,_,hv,fun hne w10 h10=>⟨h10,by unfold zua; rw [if_neg (by rw [hyes]; simp),if_neg (by omega),if_neg (by omega),if_pos hne]⟩,fun hz2=>⟨fun hbig w10 h10=>⟨h10,by unfold zua; rw [if_neg (by rw [hyes]; simp),if_neg (by omega),if_neg (by omega),if_neg (by omega),if_pos (by omega)]⟩,fun hle=>?_⟩⟩
  have hE:zua j=zC1 0 j.aft:=by unfold zua; rw [if_neg (by rw [hyes]; simp),if_neg (by omega),if_neg (by omega),if_neg (by omega),if_neg (by omega)]
  rw [hE]
  refine ⟨fun last k w'=>w'=w/\0<=k/\k<=j.aft.length/\zC1 0 j.aft=zC1 last (j.aft.drop k.toNat),fun _ k _=>(j.aft.length-k).toNat,⟨rfl,by omega,by omega,by simp⟩,?_⟩
  rintro last k w' ⟨rfl,hk0,hk1,hup⟩
  refine ⟨fun hlt=>?_,fun hge w14 h14=>⟨h14,by rw [hup,List.drop_eq_nil_of_le (by omega)]; rfl⟩⟩
  have g:=zdP.idx hJ.2 hk0 hlt
  have hdrop:j.aft.drop k.toNat=j.aft.getD k.toNat 0::j.aft.drop (k.toNat+1):=by
    rw [List.drop_eq_getElem_cons (by omega)]
    congr 1
    simp [List.getD_eq_getElem?_getD,show k.toNat<j.aft.length by omega]
  rw [hdrop] at hup
  refine ⟨fun hq=>zai g (zah.2 hq),hk0,hlt,_,g,fun hbad w15 h15=>⟨h15,?_⟩,fun hin=>⟨fun hle2 w15 h15=>⟨h15,?_⟩,fun hgt=>⟨i64 (by omega),⟨rfl,by omega,by omega,?_⟩,by simp only []; omega⟩⟩⟩
  · rw [hup,zC1,if_pos (by omega)]
  · rw [hup,zC1,if_neg (by omega),if_pos (by omega)]
  · rw [show (k+1).toNat=k.toNat+1 by omega,hup,zC1,if_neg (by omega),if_neg (by omega)]
def zHa (x:Ev):Prop:=(x.kind≠2/\x.n≠0)\/((x.kind≠4/\x.kind≠5)/\x.id≠0)\/(x.kind≠4/\x.ok=true)
def zIZ (x:Ev) (e:Int):Prop :=
  ((x.kind<1\/5<x.kind)/\e=1)\/((1<=x.kind/\x.kind<=5) /\
    ((x.kind≠1/\(x.job≠zdw\/zHa x)/\e=1)\/(x.kind≠1/\¬ (x.job≠zdw\/zHa x)/\((x.n<0\/1000000000<x.n\/x.id<0\/65535<x.id)/\e=4\/¬ (x.n<0\/1000000000<x.n\/x.id<0\/65535<x.id)/\e=0)) \/
     (x.kind=1/\zHa x/\e=1)\/(x.kind=1/\¬ zHa x/\e=zua x.job)))
theorem eErr_k (x:Ev) (pa:Option Addr) (ca:Nat) (pf:Option Addr) (cf:Nat) (w:World) (hJ:IsJ w x.job pa ca pf) (hW:WfJ x.job):FnP Tryz.prog zcV #[evv x pa ca pf cf] w fun v w'=>Ext w w'/\∃ e:Int,v=.int .i64 e/\zIZ x e:=by
  refine zkg x.kind x.job.user x.job.prio x.job.nd.c x.job.nd.m x.job.nd.g x.job.ask.k x.job.ask.key x.job.ask.val x.job.ask.n pa x.job.ask.xs.length ca pf x.job.aft.length cf x.n x.id x.ok w _ fun b0 hb0=>⟨fun hbad w1 h1=>⟨h1,1,rfl,.inl ⟨hbad,rfl⟩⟩,fun hk=>⟨fun h1 w1 e1=>?_,fun h1=>?_⟩⟩
  · refine (zEb x.job pa ca pf cf w1).mono fun v w2 ⟨e2,b,hv,hb⟩=>⟨e2,b,hv,fun hbad w4 h4=>⟨h4,1,rfl,.inr ⟨hk,.inl ⟨h1,?_,rfl⟩⟩⟩,fun hgd=>⟨fun h=>absurd h h1,fun _=>⟨fun hbad w4 h4=>⟨h4,4,rfl,.inr ⟨hk,.inr (.inl ⟨h1,?_,.inl ⟨?_,rfl⟩⟩)⟩⟩,fun hin w4 h4=>⟨h4,0,rfl,.inr ⟨hk,.inr (.inl ⟨h1,?_,.inr ⟨?_,rfl⟩⟩)⟩⟩⟩⟩⟩
    · rcases hbad with ((h|h)|h)|h
      · left; intro hz; rw [hb.2 hz] at h; cases h
      · exact .inr (.inl h)
      · exact .inr (.inr (.inl h))
      · exact .inr (.inr (.inr h))
    · obtain ⟨⟨⟨a1,a2⟩,a3⟩,a4⟩:=hgd
      rintro (h|h|h|h)
      · exact h (hb.1 a1)
      · omega
      · omega
      · rcases a4 with a4|a4
        · exact h.1 a4
        · rw [a4] at h; cases h.2
    · omega
    · obtain ⟨⟨⟨a1,a2⟩,a3⟩,a4⟩:=hgd
      rintro (h|h|h|h)
      · exact h (hb.1 a1)
      · omega
      · omega
      · rcases a4 with a4|a4
        · exact h.1 a4
        · rw [a4] at h; cases h.2
    · omega
  · refine ⟨fun hbad w1 e1=>⟨e1,1,rfl,.inr ⟨hk,.inr (.inr (.inl ⟨h1,?_,rfl⟩))⟩⟩,fun hgd=>⟨fun _ w1 e1=>?_,fun h=>absurd h1 h⟩⟩
    · rcases hbad with (h|h)|h
      · exact .inl h
      · exact .inr (.inl h)
      · exact .inr (.inr h)
    · refine (zDr x.job pa ca pf cf w1 (hJ.ext e1) hW).mono fun v w2 ⟨e2,hv⟩=>⟨e2,_,hv,fun w4 h4=>⟨h4,_,rfl,.inr ⟨hk,.inr (.inr (.inr ⟨h1,?_,rfl⟩))⟩⟩⟩
      obtain ⟨⟨a2,a3⟩,a4⟩:=hgd
      rintro (h|h|h)
      · omega
      · omega
      · rcases a4 with a4|a4
        · exact h.1 a4
        · rw [a4] at h; cases h.2
theorem zIZ.ok {x:Ev} {e:Int} (h:zIZ x e):e=0↔okE x:=by
  constructor
  · rintro rfl
    rcases h with ⟨_,h⟩|⟨hk,⟨_,_,h⟩|⟨h1,h2,h3⟩|⟨_,_,h⟩|⟨h1,h2,h3⟩⟩
    · cases h
    · cases h
    · rcases h3 with ⟨_,h⟩|⟨h3,_⟩
      · cases h
      have hz:x.job=zdw:=Classical.byContradiction fun hh=>h2 (.inl hh)
      have ho:¬ zHa x:=fun hh=>h2 (.inr hh)
      unfold zHa at ho
      have hok:x.kind≠4->x.ok=false:=fun hh=>by
        cases hx:x.ok with
        |false => rfl
        |true => exact absurd (.inr (.inr ⟨hh,hx⟩)) ho
      have hn:x.kind≠2->x.n=0:=fun hh=>Classical.byContradiction fun h=>ho (.inl ⟨hh,h⟩)
      have hi:x.kind≠4->x.kind≠5->x.id=0:=fun ha hb=>Classical.byContradiction fun h=>ho (.inr (.inl ⟨⟨ha,hb⟩,h⟩))
      have hk5:x.kind=2\/x.kind=3\/x.kind=4\/x.kind=5:=by omega
      rcases hk5 with g|g|g|g
      · exact .inr (.inl ⟨g,hz,by omega,hi (by omega) (by omega),hok (by omega)⟩)
      · exact .inr (.inr (.inl ⟨g,hz,hn (by omega),hi (by omega) (by omega),hok (by omega)⟩))
      · exact .inr (.inr (.inr (.inl ⟨g,hz,hn (by omega),by omega⟩)))
      · exact .inr (.inr (.inr (.inr ⟨g,hz,hn (by omega),by omega,hok (by omega)⟩)))
    · cases h
    · have ho:=h2
      unfold zHa at ho
      exact .inl ⟨h1,zi2.1 h3.symm,Classical.byContradiction fun h=>ho (.inl ⟨by omega,h⟩),Classical.byContradiction fun h=>ho (.inr (.inl ⟨by omega,h⟩)),by
        cases hx:x.ok with
        |false => rfl
        |true => exact absurd (.inr (.inr ⟨by omega,hx⟩)) ho⟩
  · intro ho
    have hk:=zlJ ho
    have hodd:¬ zHa x:=by
      unfold zHa
      rcases ho with g|g|g|g|g
      · rw [g.2.2.2.2]; have:=g.1; have:=g.2.2.1; have:=g.2.2.2.1; simp; omega
      · rw [g.2.2.2.2]; have:=g.1; have:=g.2.2.2.1; simp; omega
      · rw [g.2.2.2.2]; have:=g.1; have:=g.2.2.1; have:=g.2.2.2.1; simp; omega
      · have:=g.1; have:=g.2.2.1; simp; omega
      · rw [g.2.2.2.2]; have:=g.1; have:=g.2.2.1; simp; omega
    rcases h with ⟨h,_⟩|⟨_,⟨h1,h2,_⟩|⟨h1,h2,h3⟩|⟨_,h,_⟩|⟨h1,h2,h3⟩⟩
    · omega
    · rcases h2 with h2|h2
      · rcases ho with g|g|g|g|g
        · exact absurd g.1 h1
        all_goals exact absurd g.2.1 h2
      · exact absurd h2 hodd
    · rcases h3 with ⟨h3,_⟩|⟨_,h3⟩
      · rcases ho with g|g|g|g|g
        · exact absurd g.1 h1
        · have:=g.2.2; omega
        · have:=g.2.2; omega
        · have:=g.2.2; omega
        · have:=g.2.2; omega
      · exact h3
    · exact absurd h hodd
    · rw [h3]
      refine zi2.2 ?_
      rcases ho with g|g|g|g|g
      · exact g.2.1
      all_goals exact absurd g.1 (by omega)
theorem zIE {w:World} {x:Nd} {K:Option Addr->World->Prop} (h:∀ p w',Ext w w'->zBY w' p x->p≠none->K p w'):New w zio (zwI x) K :=
  zbG (by intro v hv; simp at hv; rcases hv with rfl|rfl|rfl<;>rfl) fun w' o e=>h _ w' e (o 0 (Nat.zero_le _)).cells (by simp)
abbrev NdsAt (w:World) (p:Option Addr) (L:List Nd):Prop:=zgt 3 zwI w p L
def zC0 (L:List Nd):Int:=if ∀ x∈L,okN x then 0 else 4
theorem zGt {L:List Nd}:zC0 L=0↔∀ x∈L,okN x:=by unfold zC0; split<;>simp_all
theorem zDM (p:Option Addr) (c:Nat) (L:List Nd) (h63:(L.length:Int)<=9223372036854775807) (w:World) (h:NdsAt w p L):FnP Tryz.prog zci #[.slice p L.length c] w fun v w'=>Ext w w'/\v=.int .i64 (zC0 L):=by
  refine zra p L.length c w _ ⟨fun k w'=>w'=w/\0<=k/\k<=L.length/\∀ i:Nat,(i:Int)<k->okN (L.getD i default),fun k _=>(L.length-k).toNat,⟨rfl,by omega,by omega,fun i hi=>by omega⟩,?_⟩
  rintro k w ⟨rfl,hk0,hk1,hall⟩
  refine ⟨fun hlt=>?_,fun hge w3 h3=>⟨h3,?_⟩⟩
  · have g0:=h.idx default hk0 hlt (j:=0) rfl
    have g1:=h.idx default hk0 hlt (j:=1) rfl
    have g2:=h.idx default hk0 hlt (j:=2) rfl
    refine ⟨fun hq=>zai g0 (zah.2 hq),hk0,hlt,zai g0,_,g0,_,g1,_,g2,fun b6 _=>fun w7 h7=>?_⟩
    refine (zeA (L.getD k.toNat default) w7).mono fun v w8 ⟨e8,hv⟩=>⟨e8,_,hv,fun hne w10 h10=>⟨h10,?_⟩,fun he=>⟨i64 (by omega),⟨rfl,by omega,by omega,fun i hi=>?_⟩,by simp only []; omega⟩⟩
    · have hno:¬ okN (L.getD k.toNat default):=fun h=>hne (zbc.2 h)
      rw [zmA hno]
      congr 1
      exact (if_neg fun hx=>hno (hx _ (zap L default (by omega)))).symm
    · by_cases hik:(i:Int)<k
      · exact hall i hik
      · obtain rfl:i=k.toNat:=by omega
        exact zbc.1 he
  · congr 1
    refine (zGt.2 fun x hx=>?_).symm
    obtain ⟨i,hi,rfl⟩:=List.getElem_of_mem hx
    have:=hall i (by omega)
    simpa [List.getD_eq_getElem?_getD,hi] using this
theorem zs7 (a b:Nd) {ns:List Nat} {w:World} {K:Int->World->Prop} (hk:∀ w',Ext w w'->K (if okN a/\okN b then 0 else 4) w') :
    ∀ w3,zag [] ns w w3->Run Tryz.prog (.buildSlice zB5 2 [(0,nv a),(1,nv b)]) w3 fun v4 w4=>Ext w3 w4/\∃ t5:Option Addr,∃ tl6:Nat,∃ tc7:Nat,v4=.slice t5 tl6 tc7 /\
      ∀ w8,Ext w4 w8->FnP Tryz.prog zci #[.slice t5 tl6 tc7] w8 fun v9 w9=>Ext w8 w9/\∃ t10:Int,v9=.int .i64 t10/\K t10 w4:=by
  intro w3 x3
  refine zcE zuy [nv a,nv b] rfl rfl (by intro v hv; simp at hv; rcases hv with rfl|rfl<;>rfl) (by omega) (by omega) fun w4 o4 e4=>⟨e4,_,_,_,rfl,fun w8 h8=>?_⟩
  have o8:=(o4 0 (Nat.zero_le _)).ext h8
  have hL:NdsAt w8 (some ⟨w3.heap.size,0,none⟩) [a,b]:=Own.recs (enc:=zwI) (xs:=[a,b]) o8 fun _ _=>rfl
  refine (zDM _ 2 [a,b] (by simp) w8 hL).mono fun v w9 ⟨e9,hv⟩=>⟨e9,_,hv,?_⟩
  have:zC0 [a,b]=if okN a/\okN b then 0 else 4:=by
    unfold zC0; simp
  rw [this]
  exact hk w4 ((zaa x3).trans e4)
theorem zDQ (a b:Nd) (w:World):FnP Tryz.prog zhw #[nv a,nv b] w fun v w'=>Ext w w'/\v=.bool (decide (zj9 a b)):=by
  refine zvE a.c a.m a.g b.c b.m b.g w _ fun b0 _ b1 _ w2 h2=>⟨h2,?_⟩
  congr 1
  unfold zj9
  by_cases h1:a.c<=b.c<;>by_cases h2:a.m<=b.m<;>by_cases h3:a.g<=b.g<;>simp [h1,h2,h3]
theorem zxF (a b:Nd) (w:World):FnP Tryz.prog zhu #[nv a,nv b] w fun v w'=>Ext w w'/\∃ t e,v=.tuple #[.bool t,.int .i64 e]/\((okN a/\okN b/\e=0/\t=decide (zj9 a b))\/(¬ (okN a/\okN b)/\e=4/\t=false)):=by
  refine zvC a.c a.m a.g b.c b.m b.g w _ fun b0 hb0 b1 hb1=>?_
  refine zs7 a b fun w3 e3=>?_
  by_cases hok:okN a/\okN b
  · rw [if_pos hok]
    refine ⟨fun h=>absurd rfl h,fun _ w10 h10=>(zDQ a b w10).mono fun v w11 ⟨e11,hv⟩=>⟨e11,_,hv,fun w13 h13=>⟨e3.trans h13,_,_,rfl,.inl ⟨hok.1,hok.2,rfl,rfl⟩⟩⟩⟩
  · rw [if_neg hok]
    exact ⟨fun _ w10 h10=>⟨e3.trans h10,_,_,rfl,.inr ⟨hok,rfl,rfl⟩⟩,fun h=>by omega⟩
theorem nAdd_k (a b:Nd) (w:World):FnP Tryz.prog zjz #[nv a,nv b] w fun v w'=>Ext w w'/\∃ s e,v=.tuple #[nv s,.int .i64 e] /\
    ((okN a/\okN b/\okN (zwG a b)/\e=0/\s=zwG a b)\/(¬ (okN a/\okN b)/\e=4/\s=za7)\/(okN a/\okN b/\¬ okN (zwG a b)/\e=2/\s=za7)):=by
  refine zx0 a.c a.m a.g b.c b.m b.g w _ fun b0 hb0 b1 hb1 b2 hb2=>?_
  refine zs7 a b fun w4 e4=>?_
  by_cases hok:okN a/\okN b
  · rw [if_pos hok]
    obtain ⟨⟨a1,a2,a3⟩,⟨c1,c2,c3⟩⟩:=id hok
    refine ⟨fun h=>absurd rfl h,fun _=>⟨i64 (by omega),i64 (by omega),i64 (by omega),fun b11 _ w12 h12=>?_⟩⟩
    refine (zeA (zwG a b) w12).mono fun v w13 ⟨e13,hv⟩=>⟨e13,_,hv,fun hne w15 x15=>⟨zxg x15 e4 hb2,za7,_,rfl,.inr (.inr ⟨hok.1,hok.2,fun h=>hne (zbc.2 h),rfl,rfl⟩)⟩,fun he w15 x15=>⟨zxg x15 e4 hb2,zwG a b,_,rfl,.inl ⟨hok.1,hok.2,zbc.1 he,rfl,rfl⟩⟩⟩
  · rw [if_neg hok]
    exact ⟨fun _ w11 x11=>⟨zxg x11 e4 hb2,za7,_,rfl,.inr (.inl ⟨hok,rfl,rfl⟩)⟩,fun h=>by omega⟩
theorem zzR (a b:Nd) (w:World):FnP Tryz.prog zcw #[nv a,nv b] w fun v w'=>Ext w w'/\∃ s e,v=.tuple #[nv s,.int .i64 e] /\
    ((okN a/\okN b/\zj9 b a/\e=0/\s=ziu a b)\/(¬ (okN a/\okN b)/\e=4/\s=za7)\/(okN a/\okN b/\¬ zj9 b a/\e=10/\s=za7)):=by
  refine zx1 a.c a.m a.g b.c b.m b.g w _ fun b0 hb0 b1 hb1 b2 hb2=>?_
  refine zs7 a b fun w4 e4=>?_
  by_cases hok:okN a/\okN b
  · rw [if_pos hok]
    obtain ⟨⟨a1,a2,a3⟩,⟨c1,c2,c3⟩⟩:=id hok
    refine ⟨fun h=>absurd rfl h,fun _ w11 h11=>?_⟩
    refine (zDQ b a w11).mono fun v w12 ⟨e12,hv⟩=>⟨e12,_,hv,fun hf w14 x14=>⟨zxg x14 e4 hb2,za7,_,rfl,.inr (.inr ⟨hok.1,hok.2,by simpa using hf,rfl,rfl⟩)⟩,fun hf=>⟨i64 (by omega),i64 (by omega),i64 (by omega),fun w14 x14=>⟨zxg x14 e4 hb2,ziu a b,_,rfl,.inl ⟨hok.1,hok.2,by simpa using hf,rfl,rfl⟩⟩⟩⟩
  · rw [if_neg hok]
    exact ⟨fun _ w11 x11=>⟨zxg x11 e4 hb2,za7,_,rfl,.inr (.inl ⟨hok,rfl,rfl⟩)⟩,fun h=>by omega⟩
end Go.Proofs.YtcceeahmcecbnaaGreatDoor
