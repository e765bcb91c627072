/-
  What the laws take from Go's library, by the shelf's contracts: strconv.Itoa, strconv.Atoi, strings.Join, strings.Split, slices.Sort, slices.SortFunc, strings.Builder.
-/
import Derived.Test.YtkemmodgpafkmaaGreatDoorXStr
import Derived.Shelf.Strconv.Itoa3
import Derived.Shelf.Strings.OnBuilder
import Derived.Shelf.Strings.BuilderF
import Derived.Shelf.Strings.Split
import Derived.Shelf.Strconv.AtoiAll
import Derived.Shelf.Sort.Plain
import Derived.Shelf.Slices.In.SortNone
import Derived.Shelf.SlSortCmp.WholeK
import Derived.Ground.SlsfProg
import Derived.Test.YtkemmodgpafkmaaGreatDoorChecked
import Derived.Test.YtkemmodgpafkmaaGreatDoorRows
import Derived.KernelRfl
import Derived.WalkKit
import Derived.WalkSpells
import Derived.Lib.Small
import Derived.Lib.Walk
import Derived.Tactics
import Derived.Tactics2
import Derived.StillTactics
import Derived.Laws.Pointers
import Derived.Deep.RegionHeld3
import Derived.Shelf.SlSortCmp.NoneTotal
import Derived.Lib.AtoiAllCases
import Derived.Lib.SmallJoins
import Derived.Test.YtkemmodgpafkmaaGreatDoorXOps
import Derived.Lib.OwnBridge
import Derived.Lib.Hide
import Derived.Deep.LoopGhost
open Array renaming extract_eq_self_of_le->agY,getElem?_push_size->agZ
open List renaming range->agH
open Nat renaming le_succ->afR,zero_le->afc
open Option renaming none->U,some->O
namespace Sh
open Go Go.Ab Go.Proofs Go.Shelf Go.RowKit
def tY:Obj->Prop:=λo=>∃(cs:Array Value) (e:TypeId) (fz:Nat×Nat) (v:Value),o=.cells cs e fz/\cs[0]? =O v/\(v=.nilIface\/∃te a,v=.iface te a)
instance:Tabs:=⟨[(0,zw),(1,tY),(2,tY),(5,pZ (Lib.pow10Tab.map λz=>Value.int .u64 z).toArray)]⟩
def BI:Go.Shelf.Ren:=⟨fun|169=>49|n=>n,fun|70=>74|9=>9|0=>0|72=>76|37=>51|127=>116|3=>3|5=>5|n=>n,fun|n=>n⟩
theorem Sm:Go.Proofs.Lays.n169 Tryz.prog BI:=by constructor<;>first|kernel_rfl|(intro;kernel_rfl)
theorem zB:Builder.Extra Tryz.prog BI:=by constructor<;>first|kernel_rfl|(intro;kernel_rfl)|decide|(constructor<;>first|kernel_rfl|(intro;kernel_rfl)|decide)
def BJ:Go.Shelf.Ren:=⟨fun|156=>199|165=>262|166=>48|169=>49|240=>76|241=>306|276=>113|277=>351|n=>n,fun|31=>69|9=>9|3=>3|4=>4|0=>0|20=>20|72=>76|76=>79|70=>74|37=>51|75=>78|127=>116|164=>142|5=>5|80=>81|n=>n,fun|n=>n⟩
theorem Ic:Go.Proofs.Lays.n156 Tryz.prog BJ:=by constructor<;>first|kernel_rfl|(intro;kernel_rfl)
theorem ml:Builder.Extra Tryz.prog BJ:=by constructor<;>first|kernel_rfl|(intro;kernel_rfl)|decide|(constructor<;>first|kernel_rfl|(intro;kernel_rfl)|decide)
open Go.RowKit in
theorem strings_Join_none(a:Option Addr)(c:Nat)(sep:ByteArray)(w:World):Calls Tryz.prog 199 #[.slice a 0 c,.string sep] w λe w'=>e=.returned (.string ⟨#[]⟩)/\w'=w:=Any.strings_Join_none Ic ml a c sep w
open Go.RowKit in
theorem strings_Join(bk o c:Nat)(xs:List ByteArray)(sep:ByteArray)(w:World)(a:∀(j:Nat) x,xs[j]? =O x->w.cell? ⟨bk,o+j,U⟩=O (.string x))(d:bk<w.heap.size)(f:xs.length<=140737488355328)(b:xs.length<=c)(hlen:(Lib.join (xs.map (·.data.toList)) sep.data.toList).length<=140737488355328):Calls Tryz.prog 199 #[.slice (O ⟨bk,o,U⟩) xs.length c,.string sep] w λe w'=>e=.returned (.string ⟨(Lib.join (xs.map (·.data.toList)) sep.data.toList).toArray⟩)/\Below w.heap.size w w':=Any.strings_Join Ic ml bk o c xs sep w a d f b hlen
open Go.RowKit in
theorem Builder_String_any_f(B b:Nat)(l:List UInt8)(w:World)(h:Lib.IsBuilderF 76 5 B b (Lib.byteCells l) w)(a:B<=w.heap.size):Calls Tryz.prog 49 #[.pointer (O ⟨b,0,U⟩)] w λe w'=>e=.returned (.string ⟨l.toArray⟩)/\(Lib.IsBuilderF 76 5 B b (Lib.byteCells l) w'/\Below B w w'):=Any.Builder_String_any_f Sm zB B b l w h a
def HM:Go.Shelf.Ren:=⟨fun|171=>143|243=>194|246=>257|283=>300|284=>301|285=>302|286=>303|129=>322|317=>345|318=>346|319=>347|320=>348|337=>365|338=>366|n=>n,fun|3=>3|9=>9|2=>2|4=>4|171=>263|0=>0|53=>96|37=>51|5=>5|173=>266|212=>300|51=>277|20=>20|213=>301|46=>144|232=>320|233=>321|n=>n,fun|17=>5|18=>6|19=>7|n=>n⟩
theorem Ra:Go.Proofs.LaysM.n171 Tryz.prog HM:=by constructor<;>first|kernel_rfl|(intro;kernel_rfl)|(constructor<;>first|kernel_rfl|(intro;kernel_rfl))
open Go.RowKit Go.Sort Go.Lib in
theorem strconv_Itoa(n:Int)(h0: -9223372036854775808≤n)(h1:n≤9223372036854775807)(w:World)(a:Lib.TabIs Tryz.prog w "internal/strconv.uint64pow10" .u64 Lib.pow10Tab):Calls Tryz.prog 143 #[.int .i64 n] w fun e w'=>e=.returned (.string ⟨(Lib.itoa n).toArray⟩)∧∃k os,w'=grow (w.drewN k) os:=Any.strconv_Itoa Ra n h0 h1 w a
def Hy:Go.Shelf.Ren:=⟨fun|172=>142|244=>192|245=>193|247=>252|279=>253|280=>254|281=>255|282=>256|287=>297|316=>298|171=>143|205=>299|321=>343|322=>344|243=>194|246=>257|283=>300|284=>301|285=>302|286=>303|129=>322|317=>345|318=>346|319=>347|320=>348|337=>365|338=>366|n=>n,fun|9=>9|3=>3|75=>78|76=>79|4=>4|5=>5|167=>232|37=>51|0=>0|85=>233|2=>2|168=>235|53=>96|175=>258|46=>144|210=>261|127=>116|145=>298|143=>296|21=>21|171=>263|173=>266|212=>300|51=>277|20=>20|213=>301|232=>320|233=>321|80=>81|n=>n,fun|15=>1|16=>2|17=>5|18=>6|19=>7|n=>n⟩
theorem Ef:Go.Proofs.LaysC.n172 Tryz.prog Hy:=by constructor<;>first|kernel_rfl|(intro;kernel_rfl)|(constructor<;>first|kernel_rfl|(intro;kernel_rfl)|(constructor<;>first|kernel_rfl|(intro;kernel_rfl)))
open Go.RowKit in
theorem strconv_Atoi_ok(s:ByteArray)(a:s.size<=9223372036854775806)(v:Int)(h:Lib.atoiAll s.data.toList=.ok v)(w:World):Calls Tryz.prog 142 #[.string s] w λe w'=>e=.returned (.tuple #[.int .i64 v,.nilIface])/\(w'=w\/∃t,w'=Lib.bytesWorld w 5 t):=Any.strconv_Atoi_ok Ef s a v h w
open Go.RowKit in
theorem strconv_Atoi_syntax(s:ByteArray)(a:s.size<=281474976710656)(h:Lib.atoiAll s.data.toList=Lib.atoiAll [])(ev:Value)(w:World)(c:w.cell? ⟨1,0,U⟩=O ev)(b:ev=.nilIface\/∃te d,ev=.iface te d):Calls Tryz.prog 142 #[.string s] w λe w'=>∃N,e=.returned (.tuple #[.int .i64 (0),.iface 235 (.pointer (O ⟨N,0,U⟩))])/\w.heap.size<=N/\w'.heap[N]? =O (.cells #[.string ⟨#[65,116,111,105]⟩,.string s,ev] 261 (0,0))/\Below w.heap.size w w':=Any.strconv_Atoi_syntax Ef s a (h.trans rfl) ev w c b
open Go.RowKit in
theorem strconv_Atoi_range(s:ByteArray)(a:s.size<=281474976710656)(h:Lib.atoiAll s.data.toList=.range)(ev:Value)(w:World)(c:w.cell? ⟨2,0,U⟩=O ev)(b:ev=.nilIface\/∃te d,ev=.iface te d):Calls Tryz.prog 142 #[.string s] w λe w'=>∃N,e=.returned (.tuple #[.int .i64 (Lib.atoiSat s.data.toList),.iface 235 (.pointer (O ⟨N,0,U⟩))])/\w.heap.size<=N/\w'.heap[N]? =O (.cells #[.string ⟨#[65,116,111,105]⟩,.string s,ev] 261 (0,0))/\Below w.heap.size w w':=Any.strconv_Atoi_range Ef s a h ev w c b
def Jo:Go.Shelf.Ren:=⟨fun|189=>225|125=>277|257=>285|128=>321|129=>322|294=>332|295=>333|296=>334|297=>335|298=>336|299=>337|216=>338|300=>339|301=>340|328=>362|329=>355|330=>356|331=>363|332=>364|215=>115|343=>370|n=>n,fun|28=>26|3=>3|46=>144|0=>0|51=>277|53=>96|4=>4|183=>271|182=>270|131=>137|5=>5|9=>9|218=>305|222=>309|228=>316|229=>145|n=>n,fun|n=>n⟩
theorem MS:Go.Proofs.Lays.n189 Tryz.prog Jo:=by constructor<;>first|kernel_rfl|(intro;kernel_rfl)
open Go.Sort Go.RowKit in
theorem slices_Sort_int(a off cap:Nat)(zs:List Int)(w:World)(hH:Holds (Value.int .i64) w a off zs.toArray)(hblk:a<w.heap.size)(b:zs.length<4611686018427387904):Calls Tryz.prog 225 #[.slice (O ⟨a,off,U⟩) zs.length cap] w λe w'=>e=.returned (.tuple #[])/\∃n os,w'=grow (putRow (Value.int .i64) (Sort.ahead w n) a off (zs.mergeSort λx y=>decide (x<=y)).toArray) os:=Any.slices_Sort_int MS a off cap zs w hH hblk b
def J3:Go.Shelf.Ren:=⟨fun|146=>105|221=>141|268=>189|138=>190|143=>191|195=>248|197=>249|218=>250|219=>251|260=>292|217=>293|225=>294|224=>295|267=>296|266=>341|314=>342|n=>n,fun|9=>9|31=>69|3=>3|4=>4|0=>0|105=>229|21=>21|5=>5|46=>144|119=>289|139=>292|138=>291|146=>293|51=>277|n=>n,fun|1=>0|3=>3|4=>4|n=>n⟩
theorem Sj:Go.Proofs.Lays.n146 Tryz.prog J3:=by constructor<;>first|kernel_rfl|(intro;kernel_rfl)
open Go.RowKit Go.Lib in
theorem strings_Split(s sep:ByteArray)(m:Int)(w:World)(hs:s.size<4294967281)(hm:w.cell? ⟨0,0,U⟩=O (.int .i64 m))(h1:1<=sep.size):
    Calls Tryz.prog 105 #[.string s,.string sep] w λe w'=>
      e=.returned (.slice (O ⟨w.heap.size,0,U⟩) (Lib.countB s sep+1) (Lib.countB s sep+1))/\w'=w.alloc (.cells ((Lib.splitB sep 0 (Lib.countB s sep) s).map Value.string).toArray 9):=Any.strings_Split Sj (by kernel_rfl) s sep m w hs hm h1
def DM:Go.Shelf.Ren:=⟨fun|6=>215|15=>277|14=>276|28=>321|29=>322|20=>313|21=>314|22=>315|23=>316|24=>317|25=>318|26=>319|27=>320|46=>354|47=>355|48=>356|49=>357|50=>358|57=>368|n=>n,fun|22=>65|24=>155|25=>210|3=>3|39=>144|0=>0|53=>277|55=>96|4=>4|46=>271|45=>270|50=>137|5=>5|9=>9|66=>305|70=>309|76=>316|77=>145|n=>n,fun|n=>n⟩
theorem EB:Go.Proofs.SlLaysF0.n6 Tryz.prog DM:={
  mixed:=by kernel_rfl
  f6:=⟨Tryz.f215.name,by decide,Tryz.func215.trans (congrArg O (by kernel_rfl))⟩
  f14:=⟨Tryz.f276.name,by decide,Tryz.func276.trans (congrArg O (by kernel_rfl))⟩
  f15:=Tryz.func277.trans (congrArg O (by kernel_rfl))
  f20:=⟨Tryz.f313.name,by decide,Tryz.func313.trans (congrArg O (by kernel_rfl))⟩
  f21:=⟨Tryz.f314.name,by decide,Tryz.func314.trans (congrArg O (by kernel_rfl))⟩
  f22:=⟨Tryz.f315.name,by decide,Tryz.func315.trans (congrArg O (by kernel_rfl))⟩
  f23:=⟨Tryz.f316.name,by decide,Tryz.func316.trans (congrArg O (by kernel_rfl))⟩
  f24:=⟨Tryz.f317.name,by decide,Tryz.func317.trans (congrArg O (by kernel_rfl))⟩
  f25:=⟨Tryz.f318.name,by decide,Tryz.func318.trans (congrArg O (by kernel_rfl))⟩
  f26:=⟨Tryz.f319.name,by decide,Tryz.func319.trans (congrArg O (by kernel_rfl))⟩
  f27:=⟨Tryz.f320.name,by decide,Tryz.func320.trans (congrArg O (by kernel_rfl))⟩
  f28:=Tryz.func321.trans (congrArg O (by kernel_rfl))
  f29:=Tryz.func322.trans (congrArg O (by kernel_rfl))
  f46:=⟨Tryz.f354.name,by decide,Tryz.func354.trans (congrArg O (by kernel_rfl))⟩
  f47:=Tryz.func355.trans (congrArg O (by kernel_rfl))
  f48:=Tryz.func356.trans (congrArg O (by kernel_rfl))
  f49:=⟨Tryz.f357.name,by decide,Tryz.func357.trans (congrArg O (by kernel_rfl))⟩
  f50:=⟨Tryz.f358.name,by decide,Tryz.func358.trans (congrArg O (by kernel_rfl))⟩
  f57:=⟨Tryz.f368.name,by decide,Tryz.func368.trans (congrArg O (by kernel_rfl))⟩
  t0:=Tryz.underlying0
  a0:=Tryz.isAgg0
  z0:=Tryz.sizeOf0
  v0:=Tryz.zeroValue0
  t3:=Tryz.underlying3
  a3:=Tryz.isAgg3
  z3:=Tryz.sizeOf3
  v3:=Tryz.zeroValue3
  t4:=Tryz.underlying4
  a4:=Tryz.isAgg4
  z4:=Tryz.sizeOf4
  v4:=Tryz.zeroValue4
  t5:=Tryz.underlying5
  a5:=Tryz.isAgg5
  z5:=Tryz.sizeOf5
  v5:=Tryz.zeroValue5
  t9:=Tryz.underlying9
  a9:=Tryz.isAgg9
  z9:=Tryz.sizeOf9
  v9:=Tryz.zeroValue9
  t22:=Tryz.underlying65
  a22:=Tryz.isAgg65
  z22:=Tryz.sizeOf65
  v22:=Tryz.zeroValue65
  t25:=Tryz.underlying210
  a25:=Tryz.isAgg210
  z25:=Tryz.sizeOf210
  v25:=Tryz.zeroValue210
  t39:=Tryz.underlying144
  a39:=Tryz.isAgg144
  z39:=Tryz.sizeOf144
  v39:=Tryz.zeroValue144
  t45:=Tryz.underlying270
  a45:=Tryz.isAgg270
  z45:=Tryz.sizeOf270
  v45:=Tryz.zeroValue270
  t46:=Tryz.underlying271
  a46:=Tryz.isAgg271
  z46:=Tryz.sizeOf271
  v46:=Tryz.zeroValue271
  t50:=Tryz.underlying137
  a50:=Tryz.isAgg137
  z50:=Tryz.sizeOf137
  v50:=Tryz.zeroValue137
  t53:=Tryz.underlying277
  a53:=Tryz.isAgg277
  z53:=Tryz.sizeOf277
  v53:=Tryz.zeroValue277
  t55:=Tryz.underlying96
  a55:=Tryz.isAgg96
  z55:=Tryz.sizeOf96
  v55:=Tryz.zeroValue96
  t66:=Tryz.underlying305
  a66:=Tryz.isAgg305
  z66:=Tryz.sizeOf305
  v66:=Tryz.zeroValue305
  t70:=Tryz.underlying309
  a70:=Tryz.isAgg309
  z70:=Tryz.sizeOf309
  v70:=Tryz.zeroValue309
  t76:=Tryz.underlying316
  a76:=Tryz.isAgg316
  z76:=Tryz.sizeOf316
  v76:=Tryz.zeroValue316
  t77:=Tryz.underlying145
  a77:=Tryz.isAgg145
  z77:=Tryz.sizeOf145
  v77:=Tryz.zeroValue145}
def Bc:Go.Shelf.Ren:=⟨fun|6=>222|15=>277|14=>282|28=>321|29=>322|20=>323|21=>324|22=>325|23=>326|24=>327|25=>328|26=>329|27=>330|46=>359|47=>355|48=>356|49=>360|50=>361|57=>369|n=>n,fun|22=>68|24=>159|25=>215|3=>3|39=>144|0=>0|53=>277|55=>96|4=>4|46=>271|45=>270|50=>137|5=>5|9=>9|66=>305|70=>309|76=>316|77=>145|n=>n,fun|n=>n⟩
theorem zP:Go.Proofs.SlLaysF0.n6 Tryz.prog Bc:={
  mixed:=by kernel_rfl
  f6:=⟨Tryz.f222.name,by decide,Tryz.func222.trans (congrArg O (by kernel_rfl))⟩
  f14:=⟨Tryz.f282.name,by decide,Tryz.func282.trans (congrArg O (by kernel_rfl))⟩
  f15:=Tryz.func277.trans (congrArg O (by kernel_rfl))
  f20:=⟨Tryz.f323.name,by decide,Tryz.func323.trans (congrArg O (by kernel_rfl))⟩
  f21:=⟨Tryz.f324.name,by decide,Tryz.func324.trans (congrArg O (by kernel_rfl))⟩
  f22:=⟨Tryz.f325.name,by decide,Tryz.func325.trans (congrArg O (by kernel_rfl))⟩
  f23:=⟨Tryz.f326.name,by decide,Tryz.func326.trans (congrArg O (by kernel_rfl))⟩
  f24:=⟨Tryz.f327.name,by decide,Tryz.func327.trans (congrArg O (by kernel_rfl))⟩
  f25:=⟨Tryz.f328.name,by decide,Tryz.func328.trans (congrArg O (by kernel_rfl))⟩
  f26:=⟨Tryz.f329.name,by decide,Tryz.func329.trans (congrArg O (by kernel_rfl))⟩
  f27:=⟨Tryz.f330.name,by decide,Tryz.func330.trans (congrArg O (by kernel_rfl))⟩
  f28:=Tryz.func321.trans (congrArg O (by kernel_rfl))
  f29:=Tryz.func322.trans (congrArg O (by kernel_rfl))
  f46:=⟨Tryz.f359.name,by decide,Tryz.func359.trans (congrArg O (by kernel_rfl))⟩
  f47:=Tryz.func355.trans (congrArg O (by kernel_rfl))
  f48:=Tryz.func356.trans (congrArg O (by kernel_rfl))
  f49:=⟨Tryz.f360.name,by decide,Tryz.func360.trans (congrArg O (by kernel_rfl))⟩
  f50:=⟨Tryz.f361.name,by decide,Tryz.func361.trans (congrArg O (by kernel_rfl))⟩
  f57:=⟨Tryz.f369.name,by decide,Tryz.func369.trans (congrArg O (by kernel_rfl))⟩
  t0:=Tryz.underlying0
  a0:=Tryz.isAgg0
  z0:=Tryz.sizeOf0
  v0:=Tryz.zeroValue0
  t3:=Tryz.underlying3
  a3:=Tryz.isAgg3
  z3:=Tryz.sizeOf3
  v3:=Tryz.zeroValue3
  t4:=Tryz.underlying4
  a4:=Tryz.isAgg4
  z4:=Tryz.sizeOf4
  v4:=Tryz.zeroValue4
  t5:=Tryz.underlying5
  a5:=Tryz.isAgg5
  z5:=Tryz.sizeOf5
  v5:=Tryz.zeroValue5
  t9:=Tryz.underlying9
  a9:=Tryz.isAgg9
  z9:=Tryz.sizeOf9
  v9:=Tryz.zeroValue9
  t22:=Tryz.underlying68
  a22:=Tryz.isAgg68
  z22:=Tryz.sizeOf68
  v22:=Tryz.zeroValue68
  t25:=Tryz.underlying215
  a25:=Tryz.isAgg215
  z25:=Tryz.sizeOf215
  v25:=Tryz.zeroValue215
  t39:=Tryz.underlying144
  a39:=Tryz.isAgg144
  z39:=Tryz.sizeOf144
  v39:=Tryz.zeroValue144
  t45:=Tryz.underlying270
  a45:=Tryz.isAgg270
  z45:=Tryz.sizeOf270
  v45:=Tryz.zeroValue270
  t46:=Tryz.underlying271
  a46:=Tryz.isAgg271
  z46:=Tryz.sizeOf271
  v46:=Tryz.zeroValue271
  t50:=Tryz.underlying137
  a50:=Tryz.isAgg137
  z50:=Tryz.sizeOf137
  v50:=Tryz.zeroValue137
  t53:=Tryz.underlying277
  a53:=Tryz.isAgg277
  z53:=Tryz.sizeOf277
  v53:=Tryz.zeroValue277
  t55:=Tryz.underlying96
  a55:=Tryz.isAgg96
  z55:=Tryz.sizeOf96
  v55:=Tryz.zeroValue96
  t66:=Tryz.underlying305
  a66:=Tryz.isAgg305
  z66:=Tryz.sizeOf305
  v66:=Tryz.zeroValue305
  t70:=Tryz.underlying309
  a70:=Tryz.isAgg309
  z70:=Tryz.sizeOf309
  v70:=Tryz.zeroValue309
  t76:=Tryz.underlying316
  a76:=Tryz.isAgg316
  z76:=Tryz.sizeOf316
  v76:=Tryz.zeroValue316
  t77:=Tryz.underlying145
  a77:=Tryz.isAgg145
  z77:=Tryz.sizeOf145
  v77:=Tryz.zeroValue145}
theorem Nx:Sound Tryz.prog 143 ⟨[.val (.int .i64)],[.val .str],λx=>wl x⟩:=
  KI (g:=5) (by kernel_rfl) (λn w h0 h1 ht=>strconv_Itoa n h0 h1 w ht) (by simp[Tabs.l])
theorem Np:Sound Tryz.prog 199 ⟨[.val (.slice .str),.val .str],[.val .str],λx=>uK x.1 x.2⟩:=Lm (λa c sep w=>strings_Join_none a c sep w) (λbk o c xs sep w h1 b d e f=>strings_Join bk o c xs sep w h1 b d e f)
theorem K4:Sound Tryz.prog 105 ⟨[.val .str,.val .str],[.own (.slice .str)],λx=>tC x.1 x.2⟩:=
  IQ (g:=0) (λs sep n w h1 a b=>strings_Split s sep n w h1 a b) (by simp[Tabs.l])
end Sh
namespace Sh
open Go Go.Ab Go.Proofs Go.Shelf Go.RowKit Go.Sort
abbrev T3:Ty:=.pair (.int .i64) (.pair (.int .i64) (.pair (.int .i64) .unit))
abbrev G3:Type:=Int×Int×Int×Unit
def Li(x y:Int):Bool:=decide (x<=y)
def gR(l:List Int):Option (List Int):=sj (λl=>l.mergeSort Li) l
theorem Hd:Sound Tryz.prog 225 ⟨[.own (.slice (.int .i64))],[],λx=>gR x⟩:=
  KO QI (by decide) (λxs=>List.mergeSort_perm xs Li) (λa w=>Any.slices_Sort_int_none MS a 0 w) (λg cap xs w hH b hl=>by
   refine Calls.mono (slices_Sort_int g 0 cap xs w (PI (c:=Value.int .i64) (show HoldsK (λx=>[Value.int .i64 x]) 1 w g 0 xs.toArray from hH)) b hl) ?_;rintro e w' ⟨he,n,os,hw⟩;exact⟨he,n,os,by rw[hw,UY];rfl⟩)
set_option maxHeartbeats 1000000 in
theorem SL(x:Int)(W:World):Calls Tryz.prog 115 #[.int .i64 x] W fun e w'=>e=.returned (.bool false)/\w'=W:=by go_enter Tryz.func115,Tryz.ntmps115;go_wp2;go_ret;exact⟨by simp,rfl⟩
set_option maxHeartbeats 1000000 in
theorem FE(x y:Int)(W:World):Calls Tryz.prog 87 #[.int .i64 x,.int .i64 y] W fun e w'=>e=.returned (.int .i64 (Lib.compareInt x y))/\w'=W:=by go_enter Tryz.func87,Tryz.ntmps87;go_wp2_with (go_at_call 115;refine(SL _ _).mono ?_;rintro e w' ⟨rfl,hw⟩;rw[hw]);all_goals (go_ret;refine⟨?_,rfl⟩;unfold Lib.compareInt;(repeat' split)<;>first|rfl|(exfalso;omega))
def Su(a b:Int):Int:=if a≠0 then a else b
set_option maxHeartbeats 1000000 in
theorem Wo(a c:Int)(b cap:Nat)(W:World)(h0:W.cell? ⟨b,0,U⟩=O (.int .i64 a))(h1:W.cell? ⟨b,1,U⟩=O (.int .i64 c)):Calls Tryz.prog 86 #[.slice (O ⟨b,0,U⟩) 2 cap] W fun e w'=>e=.returned (.int .i64 (Su a c))/\w'=W:=by by_cases ha:a=0;{subst ha;by_cases hc:c=0;{subst hc;go_enter Tryz.func86,Tryz.ntmps86;go_wp2;refine wp_loop_rounds 3 ?_;rw[rounds_succ];go_wp2;rw[rounds_succ];go_wp2;rw[rounds_succ];go_wp2;go_ret;exact⟨rfl,rfl⟩};{(have hc':(c !=0)=true:=by simpa using hc);go_enter Tryz.func86,Tryz.ntmps86;go_wp2;refine wp_loop_rounds 3 ?_;rw[rounds_succ];go_wp2;rw[rounds_succ];go_wp2;go_ret;exact⟨by simp[Su],rfl⟩}};{(have ha':(a !=0)=true:=by simpa using ha);go_enter Tryz.func86,Tryz.ntmps86;go_wp2;refine wp_loop_rounds 3 ?_;rw[rounds_succ];go_wp2;go_ret;exact⟨by simp[Su,ha],rfl⟩}
theorem wI(W:World)(A B C:Array Value)(t1 t2 t3:TypeId)(i:Nat)(v:Value)(h:C[i]? =O v):((((W.alloc (.cells A t1)).alloc (.cells B t2)).alloc (.cells C t3)).drew).cell? ⟨W.heap.size+1+1,i,U⟩=O v:=by(have e:((((W.alloc (.cells A t1)).alloc (.cells B t2)).alloc (.cells C t3)).drew).heap[W.heap.size+1+1]? =O (.cells C t3 (0,0)):=by show(((W.heap.push _).push _).push _)[W.heap.size+1+1]? =_;rw[show W.heap.size+1+1=((W.heap.push (.cells A t1)).push (.cells B t2)).size by simp];exact agZ);unfold World.cell?;rw[e];simpa using h
set_option maxHeartbeats 4000000 in
set_option maxRecDepth 100000 in
theorem V6(x0 x1 x2 y0 y1 y2:Int)(W:World):Calls Tryz.prog 216 #[.agg #[.int .i64 x0,.int .i64 x1,.int .i64 x2],.agg #[.int .i64 y0,.int .i64 y1,.int .i64 y2]] W fun e w'=>e=.returned (.int .i64 (Su (Lib.compareInt x0 y0) (Lib.compareInt x1 y1)))/\∃q os',w'=grow (W.drewN q) os':=by
 have hcon:=fun x y W'=>FE x y W';have hor:=fun a c b cap W'=>Wo a c b cap W';generalize hr1:Lib.compareInt x0 y0=r1 at*;generalize hr2:Lib.compareInt x1 y1=r2 at*;have k1:∀W',Calls Tryz.prog 87 #[.int .i64 x0,.int .i64 y0] W' fun e w'=>e=.returned (.int .i64 r1)/\w'=W':=fun W'=>hr1▸hcon x0 y0 W';have k2:∀W',Calls Tryz.prog 87 #[.int .i64 x1,.int .i64 y1] W' fun e w'=>e=.returned (.int .i64 r2)/\w'=W':=fun W'=>hr2▸hcon x1 y1 W';clear hcon hr1 hr2;go_enter Tryz.func216,Tryz.ntmps216;go_wp
 go_region_held3 (fun w'=>w'.cell? ⟨W.heap.size,0,U⟩=O (.int .i64 x0)/\w'.cell? ⟨W.heap.size,1,U⟩=O (.int .i64 x1)/\w'.cell? ⟨W.heap.size+1,0,U⟩=O (.int .i64 y0)/\w'.cell? ⟨W.heap.size+1,1,U⟩=O (.int .i64 y1)) (go_keep)
   (first
     | (go_at_call_of 87 (Value.int .i64 x0);refine(k1 _).mono ?_;rintro e w' ⟨rfl,rfl⟩)
     | (go_at_call_of 87 (Value.int .i64 x1);refine(k2 _).mono ?_;rintro e w' ⟨rfl,rfl⟩)
     | (go_at_call 86;refine(hor r1 r2 _ _ _ (wI _ _ _ _ _ _ _ _ _ rfl) (wI _ _ _ _ _ _ _ _ _ rfl)).mono ?_;rintro e w' ⟨rfl,rfl⟩))
 (all_goals go_wp2);(all_goals go_ret);all_goals exact⟨rfl,1,_,by rw[alloc_eq_grow,alloc_eq_grow,alloc_eq_grow,grow_grow,grow_grow];rfl⟩
set_option maxHeartbeats 4000000 in
set_option maxRecDepth 100000 in
theorem Th(x0 x1 x2 y0 y1 y2:Int)(W:World):Calls Tryz.prog 223 #[.agg #[.int .i64 x0,.int .i64 x1,.int .i64 x2],.agg #[.int .i64 y0,.int .i64 y1,.int .i64 y2]] W fun e w'=>e=.returned (.int .i64 (Su (Lib.compareInt x1 y1) (Lib.compareInt x0 y0)))/\∃q os',w'=grow (W.drewN q) os':=by
 have hcon:=fun x y W'=>FE x y W';have hor:=fun a c b cap W'=>Wo a c b cap W';generalize hr1:Lib.compareInt x1 y1=r1 at*;generalize hr2:Lib.compareInt x0 y0=r2 at*;have k1:∀W',Calls Tryz.prog 87 #[.int .i64 x1,.int .i64 y1] W' fun e w'=>e=.returned (.int .i64 r1)/\w'=W':=fun W'=>hr1▸hcon x1 y1 W';have k2:∀W',Calls Tryz.prog 87 #[.int .i64 x0,.int .i64 y0] W' fun e w'=>e=.returned (.int .i64 r2)/\w'=W':=fun W'=>hr2▸hcon x0 y0 W';clear hcon hr1 hr2;go_enter Tryz.func223,Tryz.ntmps223;go_wp
 go_region_held3 (fun w'=>w'.cell? ⟨W.heap.size,1,U⟩=O (.int .i64 x1)/\w'.cell? ⟨W.heap.size,0,U⟩=O (.int .i64 x0)/\w'.cell? ⟨W.heap.size+1,1,U⟩=O (.int .i64 y1)/\w'.cell? ⟨W.heap.size+1,0,U⟩=O (.int .i64 y0)) (go_keep)
   (first
     | (go_at_call_of 87 (Value.int .i64 x1);refine(k1 _).mono ?_;rintro e w' ⟨rfl,rfl⟩)
     | (go_at_call_of 87 (Value.int .i64 x0);refine(k2 _).mono ?_;rintro e w' ⟨rfl,rfl⟩)
     | (go_at_call 86;refine(hor r1 r2 _ _ _ (wI _ _ _ _ _ _ _ _ _ rfl) (wI _ _ _ _ _ _ _ _ _ rfl)).mono ?_;rintro e w' ⟨rfl,rfl⟩))
 (all_goals go_wp2);(all_goals go_ret);all_goals exact⟨rfl,1,_,by rw[alloc_eq_grow,alloc_eq_grow,alloc_eq_grow,grow_grow,grow_grow];rfl⟩
def lex(a b c d:Int):Prop:=a<c\/(a=c/\b<d)
theorem BO(a b c d:Int):Su (Lib.compareInt a c) (Lib.compareInt b d)<0↔lex a b c d:=by unfold Su Lib.compareInt lex;(repeat' split)<;>simp_all<;>omega
def K5(x y:G3):Int:=Su (Lib.compareInt x.1 y.1) (Lib.compareInt x.2.1 y.2.1)
def oD(x y:G3):Int:=Su (Lib.compareInt x.2.1 y.2.1) (Lib.compareInt x.1 y.1)
theorem Sn:SWO (ltOf K5) where
  irrefl x:=by simp only[ltOf,K5,BO,lex,decide_eq_false_iff_not];omega
  trans x y z h1 a:=by simp only[ltOf,K5,BO,lex,au]at*;omega
  ntrans x y z h1 a:=by simp only[ltOf,K5,BO,lex,decide_eq_false_iff_not]at*;omega
theorem Pj:SWO (ltOf oD) where
  irrefl x:=by simp only[ltOf,oD,BO,lex,decide_eq_false_iff_not];omega
  trans x y z h1 a:=by simp only[ltOf,oD,BO,lex,au]at*;omega
  ntrans x y z h1 a:=by simp only[ltOf,oD,BO,lex,decide_eq_false_iff_not]at*;omega
def mE(a:G3->G3->Int)(l:List G3):List G3:=(pdq (ltOf a) l.toArray 0 l.length (Lib.bitLen l.length) true true).toList
theorem JE(x:G3):(Ab.Nf x).length=3:=rfl
theorem Jv(x:G3):∀v∈Ab.Nf x,v.oneCell'=true:=by intro v a;simp only[Ab.Nf,List.mem_cons,List.not_mem_nil,or_false]at a;rcases a with rfl|rfl|rfl<;>rfl
theorem O1:∀args w,(callFunc 216 args).run Tryz.prog w=.ok (.enter 216 args) w:=enters_of Tryz.func216 (by kernel_rfl) rfl
theorem OG:∀args w,(callFunc 223 args).run Tryz.prog w=.ok (.enter 223 args) w:=enters_of Tryz.func223 (by kernel_rfl) rfl
theorem CL{a:G3->G3->Int}(hO:SWO (ltOf a))(l:List G3):PermIn 0 l.length l.toArray (mE a l).toArray/\SortedIn (ltOf a) 0 l.length (mE a l).toArray:=by have:=pdq_sorts (ltOf a) hO l.toArray 0 l.length (Lib.bitLen l.length) true true (afc _) (by simp) (Or.inl rfl);simpa[mE]using this
theorem px{a:G3->G3->Int}(hO:SWO (ltOf a))(l:List G3):(mE a l).Perm l:=by obtain⟨h1,_,b⟩:=(CL hO l).1;have c:(mE a l).toArray.extract 0 l.length=(mE a l).toArray:=agY (by rw[h1];simp);have d:l.toArray.extract 0 l.length=l.toArray:=agY (by simp);rw[c,d]at b;exact b
def sr(l:List G3):Option (List G3):=sj (mE K5) l
theorem Ig:Sound Tryz.prog 215 ⟨[.own (.slice T3),.fn 216 []],[],λx=>sr x.1⟩:=
  Kr (t:=Ab.T3) P1 (by decide) (px Sn) (λa w=>AnyF.slices_SortFunc_none EB a 0 _ w) (λg cap xs w hH b hl=>AnyQ.slices_SortFunc_eq EB 3 Tryz.isAgg155 Tryz.sizeOf155 Ab.Nf JE Jv K5 Sn 216 #[] g 0 cap xs.toArray w O1 (λ_ _ _ _ x y=>V6 x.1 x.2.1 x.2.2.1 y.1 y.2.1 y.2.2.1 _) hH b (by simpa using hl))
theorem Lj{w:World}{v:Value}{x:List G3}{G:bu}(ho:KB w (.slice T3) v x G)(hx:x.length<4611686018427387904):Calls Tryz.prog 222 #[v,.func (.func 223) #[] #[]] w λe w'=>∃b,e=.returned (.tuple #[])/\iu w w' G/\KB w' (.slice T3) v (mE oD x) b/\∀q,b q->G q:=
  Bb (t:=Ab.T3) P1 (by decide) (px Pj) (λv=> #[v,.func (.func 223) #[] #[]]) (λa w=>AnyF.slices_SortFunc_none zP a 0 _ w) (λg cap xs w hH c hl=>AnyQ.slices_SortFunc_eq zP 3 Tryz.isAgg159 Tryz.sizeOf159 Ab.Nf JE Jv oD Pj 223 #[] g 0 cap xs.toArray w OG (λ_ _ _ _ x y=>Th x.1 x.2.1 x.2.2.1 y.1 y.2.1 y.2.2.1 _) hH c (by simpa using hl)) ho hx
end Sh
namespace Sh
open Go Go.Ab Go.Proofs Go.Shelf Go.RowKit Go.Lib
def iG(s:Bytes):Int×Bool:=
  match atoiAll s with
  |.ok v=>if v<0\/itoa v≠s then(0,false)else(v,true)
  |_=>(0,false)
def BV(s:Bytes):Option (Int×Bool):=if s.length<=281474976710656 then O (iG s)else U
set_option maxHeartbeats 1000000 in
theorem II(s:ByteArray)(w:World)(n:Int)(K:World->Prop)(hA:Calls Tryz.prog 142 #[.string s] w fun e w'=>∃te pe,e=.returned (.tuple #[.int .i64 n,.iface te pe])/\K w'):Calls Tryz.prog 107 #[.string s] w fun e w'=>e=.returned (.tuple #[.int .i64 0,.bool false])/\K w':=by go_enter Tryz.func107,Tryz.ntmps107;go_wp2_with (go_at_call 142;refine hA.mono ?_;rintro e w' ⟨te,pe,rfl,hK⟩);go_ret2;exact⟨rfl,hK⟩
set_option maxHeartbeats 1000000 in
theorem Qy(s:ByteArray)(w:World)(n:Int)(hn:n<0)(K:World->Prop)(hA:Calls Tryz.prog 142 #[.string s] w fun e w'=>e=.returned (.tuple #[.int .i64 n,.nilIface])/\K w'):Calls Tryz.prog 107 #[.string s] w fun e w'=>e=.returned (.tuple #[.int .i64 0,.bool false])/\K w':=by go_enter Tryz.func107,Tryz.ntmps107;go_wp2_with (go_at_call 142;refine hA.mono ?_;rintro e w' ⟨rfl,hK⟩);go_ret2;exact⟨rfl,hK⟩
set_option maxHeartbeats 1000000 in
theorem Ju(s t:ByteArray)(w:World)(n n':Int)(b:Bool)(hn:0<=n)(he:t.toList=s.toList->n'=n/\b=true)(hne:t.toList≠s.toList->n'=0/\b=false)(K K2:World->Prop)(hA:Calls Tryz.prog 142 #[.string s] w fun e w'=>e=.returned (.tuple #[.int .i64 n,.nilIface])/\K w')(hI:∀W,K W->Calls Tryz.prog 143 #[.int .i64 n] W fun e w'=>e=.returned (.string t)/\K2 w'):Calls Tryz.prog 107 #[.string s] w fun e w'=>e=.returned (.tuple #[.int .i64 n',.bool b])/\K2 w':=by go_enter Tryz.func107,Tryz.ntmps107;go_wp2_with (first|(go_at_call 142;refine hA.mono ?_;rintro e w' ⟨rfl,hK⟩)|(go_at_call 143;refine(hI _ hK).mono ?_;rintro e w' ⟨rfl,hK2⟩));{rename_i h;(have h:t.toList≠s.toList:=by rcases h with h|h;{omega};{simpa using h});obtain⟨rfl,rfl⟩:=hne h;go_ret2;exact⟨rfl,hK2⟩};{rename_i h;(have h:t.toList=s.toList:=by simpa using h.2);obtain⟨rfl,rfl⟩:=he h;go_ret2;exact⟨rfl,hK2⟩}
abbrev Old(w w':World):Prop:=iu w w' λ_=>False
theorem Old.trans{w c d:World}(a:Old w c)(b:Old c d):Old w d:=⟨b.os.trans a.os,b.tape.trans a.tape,b.output.trans a.output,aC a.size b.size,λq hq h=>(b.block q (aD hq a.size) h).trans (a.block q hq h),λq hq=>(b.fz q (aD hq a.size)).trans (a.fz q hq)⟩
theorem Old.rfl'(w:World):Old w w:=⟨rfl,rfl,rfl,aB _,λ_ _ _=>rfl,λ_ _=>rfl⟩
theorem NW:Sound Tryz.prog 107 ⟨[.val .str],[.val (.int .i64),.val .bool],λx=>BV x⟩:=by intro w args x r S D hT X c I a;obtain⟨v1,r1,rfl,⟨d1,rfl,k1⟩,rfl,E⟩:=c;obtain⟨rfl,Y⟩:=k1;have a:BV (x:Bytes)=O r:=a;change Bytes at x;have hx:mN (Ty.isAgg .str) [Value.string ⟨⟨x⟩⟩]=.string ⟨⟨x⟩⟩:=rfl;unfold BV at a;split at a;rotate_left;{cases a};rename_i hlen;injection a with a;subst a;(have J:(ByteArray.mk ⟨x⟩).size=x.length:=by simp[ByteArray.size]);have Z:(ByteArray.mk ⟨x⟩).data.toList=x:=rfl;obtain⟨q1,_,o1,f,K,g,f1,v1,rfl,i,j⟩:=hT (1,tY) (by simp[Tabs.l]);obtain⟨q2,_,o2,m,L,o,f2,v2,rfl,s,u⟩:=hT (2,tY) (by simp[Tabs.l]);obtain⟨M,_,P,y,A⟩:=hT (5,pZ (Lib.pow10Tab.map λz=>Value.int .u64 z).toArray) (by simp[Tabs.l]);(have Q:w.cell? ⟨1,0,U⟩=O v1:=by unfold World.cell?;rw[f];simpa using i);(have R:w.cell? ⟨2,0,U⟩=O v2:=by unfold World.cell?;rw[m];simpa using s);(have fin:∀(n:Int) (b:Bool),iG x=(n,b)->(-9223372036854775808<=n/\n<=9223372036854775807)->(Calls Tryz.prog 107 #[.string ⟨⟨x⟩⟩] w λe w'=>e=.returned (.tuple #[.int .i64 n,.bool b])/\Old w w')->Calls Tryz.prog 107 #[.string ⟨⟨x⟩⟩] w λe w'=>∃vs S' B F,e=.returned (ur vs)/\iu w w' D/\(∀q,S q->S' q)/\(∀q,S' q->S q\/(w.heap.size<=q/\q<w'.heap.size))/\mf S' w' [.val .str] [.string ⟨⟨x⟩⟩] (RK.dw [.val (.int .i64),.val .bool]) (iG x) B (λz=>cV S' w' [.val (.int .i64),.val .bool] vs z F)/\(∀q,B q->(D q\/w.heap.size<=q)/\q<w'.heap.size/\¬S' q)/\(∀q,F q->w.heap.size<=q/\q<w'.heap.size/\¬S' q/\¬B q):=by intro n b T hw hc;refine Calls.mono hc ?_;rintro e w' ⟨rfl,p⟩;refine⟨[.int .i64 n,.bool b],S,λ_=>False,λ_=>False,rfl,⟨p.os,p.tape,p.output,p.size,λq hq _=>p.block q hq (λh=>h),p.fz⟩,λ_ h=>h,λ_ h=>.inl h,⟨λ_ h=>h,?_⟩,λ_ h=>h.elim,λ_ h=>h.elim⟩;rw[T];exact⟨_,_,rfl,⟨[_],rfl,rfl,by simp only[CC,Lit.wf,ak,au];exact hw⟩,_,[],rfl,⟨[_],rfl,rfl⟩,rfl,λ_ h=>h⟩);show Calls Tryz.prog 107 #[.string ⟨⟨x⟩⟩] w _;cases hA:atoiAll x with|range=>refine fin 0 false (by simp[iG,hA]) (by omega) ?_;exact II ⟨⟨x⟩⟩ w _ (Old w) (Calls.mono (strconv_Atoi_range ⟨⟨x⟩⟩ (by omega) hA v2 w R u) λe w' ⟨N,he,_,_,C⟩=>⟨_,_,he,iu.of_below C _⟩)|ok v=>obtain⟨G,H⟩:=atoiAll_bounds hA;have d:Calls Tryz.prog 142 #[.string ⟨⟨x⟩⟩] w λe w'=>e=.returned (.tuple #[.int .i64 v,.nilIface])/\Old w w':=Calls.mono (strconv_Atoi_ok ⟨⟨x⟩⟩ (by omega) v hA w) λe w' ⟨he,hw⟩=>⟨he,by rcases hw with rfl|⟨t,rfl⟩;{exact Old.rfl' _};{exact iu.of_below (Go.Joins.below_bytesWorld _ _ _ _ (aB _)) _}⟩;by_cases hn:v<0;{exact fin 0 false (by simp[iG,hA,hn]) (by omega) (Qy ⟨⟨x⟩⟩ w v hn (Old w) d)};{(have hI:∀W,Old w W->Calls Tryz.prog 143 #[.int .i64 v] W λe w'=>e=.returned (.string ⟨(itoa v).toArray⟩)/\Old w w':=λW p=>by have V:W.heap[5]? =O P:=(p.block 5 M λh=>h).trans y;exact Calls.mono (strconv_Itoa v G H W (yw (by kernel_rfl) V A)) λe w' ⟨he,k,os,hw⟩=>⟨he,Old.trans p (hw▸iu.MO k os _)⟩);have g:(ByteArray.mk (itoa v).toArray).toList=itoa v:=toList_mk (itoa v);have o:(ByteArray.mk ⟨x⟩).toList=x:=toList_mk x;by_cases he:itoa v=x;{exact fin v true (by simp[iG,hA,hn,he]) ⟨G,H⟩ (Ju ⟨⟨x⟩⟩ _ w v v true (by omega) (λ_=>⟨rfl,rfl⟩) (λh=>absurd (g.trans (he.trans o.symm)) h) (Old w) (Old w) d hI)};{exact fin 0 false (by simp[iG,hA,he]) (by omega) (Ju ⟨⟨x⟩⟩ _ w v 0 false (by omega) (λh=>absurd (g.symm.trans (h.trans o)) he) (λ_=>⟨rfl,rfl⟩) (Old w) (Old w) d hI)}}|_=>refine fin 0 false (by simp[iG,hA]) (by omega) ?_;exact II ⟨⟨x⟩⟩ w 0 (Old w) (Calls.mono (strconv_Atoi_syntax ⟨⟨x⟩⟩ (by omega) (hA.trans rfl) v1 w Q j) λe w' ⟨N,he,_,_,C⟩=>⟨_,_,he,iu.of_below C _⟩)
theorem MZ(B b:Nat)(a:List Value)(s:ByteArray)(w:World)(h:Lib.IsBuilderF 76 5 B b a w)(hlen:a.length+s.size<=140737488355328)(c:B<=w.heap.size):Calls Tryz.prog 48 #[.pointer (O ⟨b,0,U⟩),.string s] w λe w'=>e=.returned (.tuple #[.int .i64 s.size,.nilIface])/\(Lib.BuilderAtF 76 5 B b (.pointer (O ⟨b,0,U⟩)) (a++Lib.strCells s) w'/\Below B w w'):=Any.Builder_WriteString_f {Ic with} {ml with} B b a s w h hlen c
def oN(a:Nat->Bytes):Nat->Bytes
 |0=>[]
 |n+1=>oN a n++a n
theorem H4(a:Nat->Bytes)(i:Nat):∀d,(oN a i).length<=(oN a (i+d)).length
 |0=>aB _
 |d+1=>aC (H4 a i d) (by show _<=(oN a (i+d)++a (i+d)).length;rw[aG];omega)
theorem size_alloc(w:World)(o:Obj):(w.alloc o).heap.size=w.heap.size+1:=Array.size_push _
theorem kg(w:World)(o:Obj):Below w.heap.size w (w.alloc o):=Below.alloc (Below.refl _ _) (aB _) _
set_option maxHeartbeats 4000000 in
set_option maxRecDepth 100000 in
theorem Vu(w:World)(lb lo n lc pb po pn pc:Nat)(ls:Nat->Nat)(nm:Nat->Bytes)(hn:n<=999999)(_:pn<=999999)(hl:∀i,i<n->w.cell? ⟨lb,lo+i,U⟩=O (.int .i64 (ls i)))(hk:∀i,i<n->ls i<pn)(hp:∀i,i<n->w.cell? ⟨pb,po+ls i*2,U⟩=O (.string ⟨⟨nm i⟩⟩))(hlb:lb<w.heap.size)(hpb:pb<w.heap.size)(ht:(oN nm n).length<=140737488355328):Calls Tryz.prog 203 #[.agg #[.slice (O ⟨pb,po,U⟩) pn pc],.slice (O ⟨lb,lo,U⟩) n lc] w fun e w'=>e=.returned (.string ⟨⟨oN nm n⟩⟩)/\Below w.heap.size w w':=by have H0:=Lib.hid hl;have H1:=Lib.hid hk;have H2:=Lib.hid hp;clear hl hk hp;go_enter Tryz.func203,Tryz.ntmps203;go_wp2_with fail;go_loopg [10] n (fun gg s10 wr=>∃(i:Nat),s10=.int .i64 i/\i<=n/\n-i<=gg/\Hid (Lib.IsBuilderF 76 5 (w.heap.size+1) (w.heap.size+1) (byteCells (oN nm i)) wr)/\Hid (Below (w.heap.size+1) (w.alloc (.cells #[.slice (O ⟨pb,po,U⟩) pn pc] 38)) wr));(case atStart=>refine⟨0,rfl,afc n,aB _,Lib.hid (.inl ⟨aB _,.slice U 0 0,?_,⟨rfl,.inl ⟨rfl,rfl⟩⟩,by simp[Value.ownBlock]⟩),Lib.hid (Below.alloc (Below.refl _ _) (Nat.le_of_eq (size_alloc _ _).symm) _)⟩;show((w.heap.push _).push _)[w.heap.size+1]? =_;rw[show w.heap.size+1=(w.heap.push (.cells #[.slice (O ⟨pb,po,U⟩) pn pc] 38)).size by simp];exact agZ);case round=>obtain⟨i,rfl,hin,hgg,hB,hL⟩:=hrel;(have hsz:w.heap.size+1<=wr.heap.size:=by have:=hL.out.size;rwa [size_alloc]at this);have old:∀q,q<w.heap.size->wr.heap[q]? =w.heap[q]? :=fun q hq=>(hL.out.block q (by omega)).trans ((kg w _).block q hq);by_cases hlt:i<n;{(have hltz:(i:Int)<(n:Int):=by omega);have c0:=(World.cell?_of_block (a:=⟨lb,lo+i,U⟩) (old lb hlb)).trans (H0.out i hlt);have c1:=(World.cell?_of_block (a:=⟨pb,po+ls i*2,U⟩) (old pb hpb)).trans (H2.out i hlt);(have cb:wr.cell? ⟨w.heap.size,0,U⟩=O (.slice (O ⟨pb,po,U⟩) pn pc):=by have:wr.heap[w.heap.size]? =O (.cells #[.slice (O ⟨pb,po,U⟩) pn pc] 38 (0,0)):=(hL.out.block _ (by omega)).trans agZ;unfold World.cell?;rw[this];rfl);have hkp:=H1.out i hlt;have HC:=Lib.hid (MZ (w.heap.size+1) (w.heap.size+1) (byteCells (oN nm i)) ⟨⟨nm i⟩⟩ wr hB.out (by have:=H4 nm (i+1) (n-(i+1));rw[show i+1+(n-(i+1))=n by omega]at this;have h2:(oN nm (i+1)).length=(oN nm i).length+(nm i).length:=aG;have h3:(ByteArray.mk ⟨nm i⟩).size=(nm i).length:=rfl;rw[Lib.byteCells_length];omega) hsz);generalize hv:ls i=v at c0 c1 hkp;generalize hx:nm i=x at c1 HC;have HX:=Lib.hid hx;clear hx hv;go_wp2_with (go_at_call 48;refine HC.out.mono ?_;rintro e w' ⟨rfl,hb⟩);have HB:=Lib.hid hb;clear hb HC;go_roundg (n-(i+1));(case measure=>omega);case rel=>exact⟨i+1,by go_num,by omega,aB _,Lib.hid (.inr (by have:=HB.out.1;rw[strCells_eq,<-byteCells_append]at this;rw[show oN nm (i+1)=oN nm i++x from HX.out▸rfl];exact this)),Lib.hid (hL.out.trans HB.out.2)⟩};{(obtain rfl:i=n:=by omega);(have hltz:¬(i:Int)<(i:Int):=by omega);have HC:=Lib.hid (Builder_String_any_f (w.heap.size+1) (w.heap.size+1) (oN nm i) wr hB.out hsz);go_wp2_with (go_at_call 49;refine HC.out.mono ?_;rintro e w' ⟨rfl,hb⟩);go_ret;exact⟨rfl,(kg w _).trans ((hL.out.trans hb.2).mono (afR _))⟩}
set_option maxHeartbeats 4000000 in
set_option maxRecDepth 100000 in
theorem QM(w:World)(pv:Value)(p:Option Addr)(c:Nat):Calls Tryz.prog 203 #[.agg #[pv],.slice p 0 c] w fun e w'=>e=.returned (.string ⟨⟨[]⟩⟩)/\Below w.heap.size w w':=by(have hB:Lib.IsBuilderF 76 5 (w.heap.size+1) (w.heap.size+1) (byteCells []) ((w.alloc (.cells #[pv] 38)).alloc (.cells #[.pointer U,.slice U 0 0] 76)):=by refine .inl ⟨aB _,.slice U 0 0,?_,⟨rfl,.inl ⟨rfl,rfl⟩⟩,by simp[Value.ownBlock]⟩;show((w.heap.push _).push _)[w.heap.size+1]? =_;rw[show w.heap.size+1=(w.heap.push (.cells #[pv] 38)).size by simp];exact agZ);have HC:=Lib.hid (Builder_String_any_f (w.heap.size+1) (w.heap.size+1) [] _ hB (by rw[size_alloc,size_alloc];omega));clear hB;go_enter Tryz.func203,Tryz.ntmps203;go_wp2_with fail;refine wp_loop_rounds 1 ?_;rw[rounds_succ];go_wp2_with (go_at_call 49;refine HC.out.mono ?_;rintro e w' ⟨rfl,hb⟩);go_ret;exact⟨rfl,((kg w _).trans ((kg (w.alloc _) _).mono (by rw[size_alloc];omega))).trans (hb.2.mono (afR _))⟩
abbrev WC:Ty:=.pair .str (.pair (.slice (.int .i64)) .unit)
abbrev RA:Type:=Bytes×List Int×Unit
def O5(ps:List RA)(i:Int):Bytes:=((ps[i.toNat]?).map (·.1)).getD []
def mG(ps:List RA)(l:List Int):Bytes:=l.flatMap (O5 ps)
def Dd(b:List RA×Unit)(l:List Int):Option Bytes:=if l.length<=999999/\b.1.length<=999999/\(∀i∈l,0<=i/\i<b.1.length)/\(mG b.1 l).length<=140737488355328 then O (mG b.1 l)else U
theorem ye(a:Nat->Bytes):∀n,oN a n=(agH n).flatMap a
 |0=>rfl
 |n+1=>by rw[List.range_succ,List.flatMap_append,<-ye a n];simp[oN]
theorem GQ(ps:List RA)(l:List Int):oN (λi=>O5 ps (l[i]?.getD 0)) l.length=mG ps l:=by rw[ye];(have e:(agH l.length).map (λi=>l[i]?.getD 0)=l:=by apply List.ext_getElem?;intro i;by_cases h:i<l.length<;>simp[h]);unfold mG;(conv=>rhs;rw[<-e]);rw[List.flatMap_map]
theorem Ns:Sound Tryz.prog 203 ⟨[.val (.pair (.slice WC) .unit),.val (.slice (.int .i64))],[.val .str],λx=>Dd x.1 x.2⟩:=by intro w args x r S g hT A d B b;obtain⟨v1,r1,rfl,⟨d1,rfl,k1⟩,v2,r2,rfl,⟨d2,rfl,k2⟩,rfl,s⟩:=d;obtain⟨⟨ps,u⟩,l⟩:=x;cases u;change List RA at ps;change List Int at l;have b:Dd (ps,()) l=O r:=b;unfold Dd at b;split at b;rotate_left;{cases b};rename_i hc;obtain⟨c1,c2,c3,c4⟩:=hc;injection b with b;subst b;(have fin:∀args:Array Value,(Calls Tryz.prog 203 args w λe w'=>e=.returned (.string ⟨⟨mG ps l⟩⟩)/\Below w.heap.size w w')->Calls Tryz.prog 203 args w λe w'=>∃(vs:List Value) (S' j t:bu),e=.returned (ur vs)/\iu w w' g/\(∀q,S q->S' q)/\(∀q,S' q->S q\/(w.heap.size<=q/\q<w'.heap.size))/\((∀q,¬j q)/\cV S' w' [.val .str] vs (mG ps l) t)/\(∀q,j q->(g q\/w.heap.size<=q)/\q<w'.heap.size/\¬S' q)/\(∀q,t q->w.heap.size<=q/\q<w'.heap.size/\¬S' q/\¬j q):=λargs hc=>by refine Calls.mono hc ?_;rintro e w' ⟨rfl,k⟩;exact sD A (iu.of_below k g) (y:=mG ps l) (aC c4 (by decide)));obtain⟨K,C,rfl,h1,m⟩:=k1;have m:C=[]:=m;subst m;obtain⟨D,h1⟩:=h1;obtain⟨E,v⟩:=k2;by_cases hl:l=[];{subst hl;have:mG ps []=[]:=rfl;rw[this]at fin;rcases h1 with ⟨rfl,hp⟩|⟨a,cap,rfl,_⟩<;>rcases v with ⟨rfl,_⟩|⟨a2,c,rfl,_⟩<;>exact fin _ (QM w _ _ _)};{(have hp:ps≠[]:=by rintro rfl;obtain⟨i,hi⟩:=List.exists_mem_of_ne_nil l hl;have:=c3 i hi;simp at this;omega);obtain⟨a,cap,rfl,z,k,he⟩:=h1.resolve_left λh=>hp h.2;obtain⟨a2,c,rfl,n,o,p⟩:=v.resolve_left λh=>hl h.2;obtain⟨s1,_,F⟩:=k.resolve_left hp;obtain⟨t1,_,t3⟩:=o.resolve_left hl;obtain⟨G,H,sp⟩:=a;obtain⟨I,lo,sl⟩:=a2;cases s1;cases t1;(have hk:∀i,i<l.length->0<=l[i]?.getD 0/\l[i]?.getD 0<ps.length:=λi hi=>by have:=c3 l[i] (List.getElem_mem hi);simpa[hi]using this);refine fin _ ?_;have:=Vu w I lo l.length c G H ps.length cap (λi=>(l[i]?.getD 0).toNat) (λi=>O5 ps (l[i]?.getD 0)) c1 c2 (λi hi=> ?_) (λi hi=>by have:=hk i hi;omega) (λi hi=> ?_) t3 F (by rw[GQ];exact c4);{rw[GQ]at this;exact this};{obtain⟨J,z1,z2,z3,z4⟩:=p i (l[i]?.getD 0) (by have hg:l[i]? =O l[i]:=aJ hi;rw[hg];exact hg);have:=z2 0 (.int .i64 (l[i]?.getD 0)) (by rw[z3];rfl);have hk:=hk i hi;rw[Int.toNat_of_nonneg hk.1];simpa[Ty.size]using this};{have hk:=hk i hi;(have f:(l[i]?.getD 0).toNat<ps.length:=by omega);obtain⟨J,z1,z2,z3⟩:=he (l[i]?.getD 0).toNat ps[(l[i]?.getD 0).toNat] (aJ f);obtain⟨d1,d2,rfl,⟨rfl,_⟩,_⟩:=z3;have:=z2 0 _ rfl;simpa[Ty.size,O5,f]using this}}
end Sh
