/-
  What the laws take from Go's library, by the shelf's contracts: strconv.Itoa, strconv.Atoi, strings.Join, strings.Split, slices.Sort, slices.SortFunc, strings.Builder.
-/
import Derived.Test.YtkemmodgpafkmaaGreatDoorXExt2
import Derived.Test.YtkemmodgpafkmaaGreatDoorXTied
import Derived.Test.YtkemmodgpafkmaaGreatDoorXSortF
import Derived.Shelf.Strconv.Itoa3
import Derived.Shelf.Strings.OnBuilder
import Derived.Shelf.Strings.BuilderF
import Derived.Shelf.Strings.Split
import Derived.Shelf.Strconv.AtoiAll
import Derived.Shelf.Sort.Plain
import Derived.Shelf.Slices.In.SortNone
import Derived.Shelf.SlSortCmp.WholeK
import Derived.Ground.SlsfProg
import Derived.Test.YtkemmodgpafkmaaGreatDoorChecked
import Derived.Test.YtkemmodgpafkmaaGreatDoorRows
import Derived.KernelRfl
import Derived.WalkKit
import Derived.WalkSpells
import Derived.Lib.Small
import Derived.Lib.Walk
import Derived.Tactics
import Derived.Tactics2
import Derived.StillTactics
import Derived.Laws.Pointers
import Derived.Deep.RegionHeld3
import Derived.Shelf.SlSortCmp.NoneTotal
import Derived.Lib.AtoiAllCases
import Derived.Lib.SmallJoins
import Derived.Test.YtkemmodgpafkmaaGreatDoorXIns3
import Derived.Test.YtkemmodgpafkmaaGreatDoorXOps
import Derived.Lib.OwnBridge
import Derived.Lib.Hide
import Derived.Deep.LoopGhost
namespace Go.Proofs.YtkemmodgpafkmaaGreatDoor.Sh
open Go Go.Ab Go.Proofs Go.Shelf Go.RowKit
def anIface : Obj → Prop := fun o => ∃ (cs : Array Value) (e : TypeId) (fz : Nat × Nat) (v : Value), o = .cells cs e fz ∧ cs[0]? = some v ∧ (v = .nilIface ∨ ∃ te pe, v = .iface te pe)
instance : Tabs := ⟨[(0, someInt), (1, anIface), (2, anIface), (5, holdsRow (Lib.pow10Tab.map fun z => Value.int .u64 z).toArray)]⟩
def lays169_ren : Go.Shelf.Ren := ⟨fun | 169 => 49 | n => n, fun | 70 => 74 | 9 => 9 | 0 => 0 | 72 => 76 | 37 => 51 | 127 => 116 | 3 => 3 | 5 => 5 | n => n, fun | n => n⟩
theorem lays169 : Go.Proofs.Lays.n169 Tryz.prog lays169_ren := {
  mixed := by kernel_rfl
  f169 := Tryz.func49.trans (congrArg some (by kernel_rfl))
  t0 := Tryz.underlying0
  a0 := Tryz.isAgg0
  z0 := Tryz.sizeOf0
  v0 := Tryz.zeroValue0
  t3 := Tryz.underlying3
  a3 := Tryz.isAgg3
  z3 := Tryz.sizeOf3
  v3 := Tryz.zeroValue3
  t9 := Tryz.underlying9
  a9 := Tryz.isAgg9
  z9 := Tryz.sizeOf9
  v9 := Tryz.zeroValue9
  t37 := Tryz.underlying51
  a37 := Tryz.isAgg51
  z37 := Tryz.sizeOf51
  v37 := Tryz.zeroValue51
  t70 := Tryz.underlying74
  a70 := Tryz.isAgg74
  z70 := Tryz.sizeOf74
  v70 := Tryz.zeroValue74
  t72 := Tryz.underlying76
  a72 := Tryz.isAgg76
  z72 := Tryz.sizeOf76
  v72 := Tryz.zeroValue76
  t127 := Tryz.underlying116
  a127 := Tryz.isAgg116
  z127 := Tryz.sizeOf116
  v127 := Tryz.zeroValue116 }
theorem Builder_Extra_169 : Builder.Extra Tryz.prog lays169_ren := {
  sizeBuilder := by kernel_rfl
  liesBuilder := by kernel_rfl
  t5 := Tryz.underlying5
  a5 := Tryz.isAgg5
  z5 := Tryz.sizeOf5
  v5 := Tryz.zeroValue5
  infoByte := by kernel_rfl
  cellsByte := by kernel_rfl
  sizeByte := by kernel_rfl
  neB5 := by decide }
def lays156_ren : Go.Shelf.Ren := ⟨fun | 156 => 199 | 165 => 262 | 166 => 48 | 169 => 49 | 240 => 76 | 241 => 306 | 276 => 113 | 277 => 351 | n => n, fun | 31 => 69 | 9 => 9 | 3 => 3 | 4 => 4 | 0 => 0 | 20 => 20 | 72 => 76 | 76 => 79 | 70 => 74 | 37 => 51 | 75 => 78 | 127 => 116 | 164 => 142 | 5 => 5 | 80 => 81 | n => n, fun | n => n⟩
theorem lays156 : Go.Proofs.Lays.n156 Tryz.prog lays156_ren := {
  mixed := by kernel_rfl
  f156 := Tryz.func199.trans (congrArg some (by kernel_rfl))
  f165 := Tryz.func262.trans (congrArg some (by kernel_rfl))
  f166 := Tryz.func48.trans (congrArg some (by kernel_rfl))
  f169 := Tryz.func49.trans (congrArg some (by kernel_rfl))
  f240 := Tryz.func76.trans (congrArg some (by kernel_rfl))
  f241 := Tryz.func306.trans (congrArg some (by kernel_rfl))
  f276 := Tryz.func113.trans (congrArg some (by kernel_rfl))
  f277 := Tryz.func351.trans (congrArg some (by kernel_rfl))
  t0 := Tryz.underlying0
  a0 := Tryz.isAgg0
  z0 := Tryz.sizeOf0
  v0 := Tryz.zeroValue0
  t3 := Tryz.underlying3
  a3 := Tryz.isAgg3
  z3 := Tryz.sizeOf3
  v3 := Tryz.zeroValue3
  t4 := Tryz.underlying4
  a4 := Tryz.isAgg4
  z4 := Tryz.sizeOf4
  v4 := Tryz.zeroValue4
  t9 := Tryz.underlying9
  a9 := Tryz.isAgg9
  z9 := Tryz.sizeOf9
  v9 := Tryz.zeroValue9
  t20 := Tryz.underlying20
  a20 := Tryz.isAgg20
  z20 := Tryz.sizeOf20
  v20 := Tryz.zeroValue20
  t31 := Tryz.underlying69
  a31 := Tryz.isAgg69
  z31 := Tryz.sizeOf69
  v31 := Tryz.zeroValue69
  t37 := Tryz.underlying51
  a37 := Tryz.isAgg51
  z37 := Tryz.sizeOf51
  v37 := Tryz.zeroValue51
  t70 := Tryz.underlying74
  a70 := Tryz.isAgg74
  z70 := Tryz.sizeOf74
  v70 := Tryz.zeroValue74
  t72 := Tryz.underlying76
  a72 := Tryz.isAgg76
  z72 := Tryz.sizeOf76
  v72 := Tryz.zeroValue76
  t75 := Tryz.underlying78
  a75 := Tryz.isAgg78
  z75 := Tryz.sizeOf78
  v75 := Tryz.zeroValue78
  t76 := Tryz.underlying79
  a76 := Tryz.isAgg79
  z76 := Tryz.sizeOf79
  v76 := Tryz.zeroValue79
  t127 := Tryz.underlying116
  a127 := Tryz.isAgg116
  z127 := Tryz.sizeOf116
  v127 := Tryz.zeroValue116
  t164 := Tryz.underlying142
  a164 := Tryz.isAgg142
  z164 := Tryz.sizeOf142
  v164 := Tryz.zeroValue142 }
theorem Builder_Extra_156 : Builder.Extra Tryz.prog lays156_ren := {
  sizeBuilder := by kernel_rfl
  liesBuilder := by kernel_rfl
  t5 := Tryz.underlying5
  a5 := Tryz.isAgg5
  z5 := Tryz.sizeOf5
  v5 := Tryz.zeroValue5
  infoByte := by kernel_rfl
  cellsByte := by kernel_rfl
  sizeByte := by kernel_rfl
  neB5 := by decide }
open Go.RowKit in
theorem strings_Join_none (a : Option Addr) (c : Nat) (sep : ByteArray) (w : World) :
    Calls Tryz.prog 199 #[.slice a 0 c, .string sep] w fun e w' => e = .returned (.string ⟨#[]⟩) ∧ w' = w := Any.strings_Join_none lays156 Builder_Extra_156 a c sep w
open Go.RowKit in
theorem strings_Join (bk o c : Nat) (xs : List ByteArray) (sep : ByteArray) (w : World) (hcells : ∀ (j : Nat) x, xs[j]? = some x → w.cell? ⟨bk, o + j, none⟩ = some (.string x)) (hbk : bk < w.heap.size) (hN : xs.length ≤ 140737488355328) (hcap : xs.length ≤ c) (hlen : (Lib.join (xs.map (·.data.toList)) sep.data.toList).length ≤ 140737488355328) :
    Calls Tryz.prog 199 #[.slice (some ⟨bk, o, none⟩) xs.length c, .string sep] w fun e w' => e = .returned (.string ⟨(Lib.join (xs.map (·.data.toList)) sep.data.toList).toArray⟩) ∧ Below w.heap.size w w' := Any.strings_Join lays156 Builder_Extra_156 bk o c xs sep w hcells hbk hN hcap hlen
open Go.RowKit in
theorem Builder_String_any_f (B b : Nat) (l : List UInt8) (w : World) (h : Lib.IsBuilderF 76 5 B b (Lib.byteCells l) w) (hBw : B ≤ w.heap.size) :
    Calls Tryz.prog 49 #[.pointer (some ⟨b, 0, none⟩)] w fun e w' => e = .returned (.string ⟨l.toArray⟩) ∧ (Lib.IsBuilderF 76 5 B b (Lib.byteCells l) w' ∧ Below B w w') := Any.Builder_String_any_f lays169 Builder_Extra_169 B b l w h hBw
def laysM171_ren : Go.Shelf.Ren := ⟨fun | 171 => 143 | 243 => 194 | 246 => 257 | 283 => 300 | 284 => 301 | 285 => 302 | 286 => 303 | 129 => 322 | 317 => 345 | 318 => 346 | 319 => 347 | 320 => 348 | 337 => 365 | 338 => 366 | n => n, fun | 3 => 3 | 9 => 9 | 2 => 2 | 4 => 4 | 171 => 263 | 0 => 0 | 53 => 96 | 37 => 51 | 5 => 5 | 173 => 266 | 212 => 300 | 51 => 277 | 20 => 20 | 213 => 301 | 46 => 144 | 232 => 320 | 233 => 321 | n => n, fun | 17 => 5 | 18 => 6 | 19 => 7 | n => n⟩
theorem laysM171 : Go.Proofs.LaysM.n171 Tryz.prog laysM171_ren := {
  mixed := by kernel_rfl
  f129 := Tryz.func322.trans (congrArg some (by kernel_rfl))
  f171 := Tryz.func143.trans (congrArg some (by kernel_rfl))
  f243 := Tryz.func194.trans (congrArg some (by kernel_rfl))
  f246 := Tryz.func257.trans (congrArg some (by kernel_rfl))
  f283 := Tryz.func300.trans (congrArg some (by kernel_rfl))
  f284 := Tryz.func301.trans (congrArg some (by kernel_rfl))
  f285 := Tryz.func302.trans (congrArg some (by kernel_rfl))
  f286 := Tryz.func303.trans (congrArg some (by kernel_rfl))
  f317 := Tryz.func345.trans (congrArg some (by kernel_rfl))
  f318 := Tryz.func346.trans (congrArg some (by kernel_rfl))
  f319 := Tryz.func347.trans (congrArg some (by kernel_rfl))
  f320 := Tryz.func348.trans (congrArg some (by kernel_rfl))
  f337 := Tryz.func365.trans (congrArg some (by kernel_rfl))
  f338 := Tryz.func366.trans (congrArg some (by kernel_rfl))
  t0 := Tryz.underlying0
  a0 := Tryz.isAgg0
  z0 := Tryz.sizeOf0
  v0 := Tryz.zeroValue0
  t2 := Tryz.underlying2
  a2 := Tryz.isAgg2
  z2 := Tryz.sizeOf2
  v2 := Tryz.zeroValue2
  t3 := Tryz.underlying3
  a3 := Tryz.isAgg3
  z3 := Tryz.sizeOf3
  v3 := Tryz.zeroValue3
  t4 := Tryz.underlying4
  a4 := Tryz.isAgg4
  z4 := Tryz.sizeOf4
  v4 := Tryz.zeroValue4
  t5 := Tryz.underlying5
  a5 := Tryz.isAgg5
  z5 := Tryz.sizeOf5
  v5 := Tryz.zeroValue5
  t9 := Tryz.underlying9
  a9 := Tryz.isAgg9
  z9 := Tryz.sizeOf9
  v9 := Tryz.zeroValue9
  t20 := Tryz.underlying20
  a20 := Tryz.isAgg20
  z20 := Tryz.sizeOf20
  v20 := Tryz.zeroValue20
  t37 := Tryz.underlying51
  a37 := Tryz.isAgg51
  z37 := Tryz.sizeOf51
  v37 := Tryz.zeroValue51
  t46 := Tryz.underlying144
  a46 := Tryz.isAgg144
  z46 := Tryz.sizeOf144
  v46 := Tryz.zeroValue144
  t51 := Tryz.underlying277
  a51 := Tryz.isAgg277
  z51 := Tryz.sizeOf277
  v51 := Tryz.zeroValue277
  t53 := Tryz.underlying96
  a53 := Tryz.isAgg96
  z53 := Tryz.sizeOf96
  v53 := Tryz.zeroValue96
  t171 := Tryz.underlying263
  a171 := Tryz.isAgg263
  z171 := Tryz.sizeOf263
  v171 := Tryz.zeroValue263
  t173 := Tryz.underlying266
  a173 := Tryz.isAgg266
  z173 := Tryz.sizeOf266
  v173 := Tryz.zeroValue266
  t212 := Tryz.underlying300
  a212 := Tryz.isAgg300
  z212 := Tryz.sizeOf300
  v212 := Tryz.zeroValue300
  t213 := Tryz.underlying301
  a213 := Tryz.isAgg301
  z213 := Tryz.sizeOf301
  t232 := Tryz.underlying320
  a232 := Tryz.isAgg320
  z232 := Tryz.sizeOf320
  v232 := Tryz.zeroValue320
  t233 := Tryz.underlying321
  a233 := Tryz.isAgg321
  z233 := Tryz.sizeOf321
  v233 := Tryz.zeroValue321
  g17 := by kernel_rfl
  g18 := by kernel_rfl
  g19 := by kernel_rfl
  i0 := by kernel_rfl
  i2 := by kernel_rfl
  i3 := by kernel_rfl
  i4 := by kernel_rfl
  i5 := by kernel_rfl
  i9 := by kernel_rfl
  i20 := by kernel_rfl
  i37 := by kernel_rfl
  i46 := by kernel_rfl
  i51 := by kernel_rfl
  i53 := by kernel_rfl
  i171 := by kernel_rfl
  i173 := by kernel_rfl
  i212 := by kernel_rfl
  i232 := by kernel_rfl
  i233 := by kernel_rfl
  m17 := by kernel_rfl
  m18 := by kernel_rfl
  m19 := by kernel_rfl }
open Go.RowKit Go.Sort Go.Lib in
theorem strconv_Itoa (n : Int) (h0 : -9223372036854775808 ≤ n) (h1 : n ≤ 9223372036854775807) (w : World) (htab : Lib.TabIs Tryz.prog w "internal/strconv.uint64pow10" .u64 Lib.pow10Tab) :
    Calls Tryz.prog 143 #[.int .i64 n] w fun e w' => e = .returned (.string ⟨(Lib.itoa n).toArray⟩) ∧ ∃ k os, w' = grow (w.drewN k) os := Any.strconv_Itoa laysM171 n h0 h1 w htab
def laysC172_ren : Go.Shelf.Ren := ⟨fun | 172 => 142 | 244 => 192 | 245 => 193 | 247 => 252 | 279 => 253 | 280 => 254 | 281 => 255 | 282 => 256 | 287 => 297 | 316 => 298 | 171 => 143 | 205 => 299 | 321 => 343 | 322 => 344 | 243 => 194 | 246 => 257 | 283 => 300 | 284 => 301 | 285 => 302 | 286 => 303 | 129 => 322 | 317 => 345 | 318 => 346 | 319 => 347 | 320 => 348 | 337 => 365 | 338 => 366 | n => n, fun | 9 => 9 | 3 => 3 | 75 => 78 | 76 => 79 | 4 => 4 | 5 => 5 | 167 => 232 | 37 => 51 | 0 => 0 | 85 => 233 | 2 => 2 | 168 => 235 | 53 => 96 | 175 => 258 | 46 => 144 | 210 => 261 | 127 => 116 | 145 => 298 | 143 => 296 | 21 => 21 | 171 => 263 | 173 => 266 | 212 => 300 | 51 => 277 | 20 => 20 | 213 => 301 | 232 => 320 | 233 => 321 | 80 => 81 | n => n, fun | 15 => 1 | 16 => 2 | 17 => 5 | 18 => 6 | 19 => 7 | n => n⟩
theorem laysC172 : Go.Proofs.LaysC.n172 Tryz.prog laysC172_ren := {
  mixed := by kernel_rfl
  f129 := Tryz.func322.trans (congrArg some (by kernel_rfl))
  f171 := Tryz.func143.trans (congrArg some (by kernel_rfl))
  f172 := Tryz.func142.trans (congrArg some (by kernel_rfl))
  f205 := Tryz.func299.trans (congrArg some (by kernel_rfl))
  f243 := Tryz.func194.trans (congrArg some (by kernel_rfl))
  f244 := Tryz.func192.trans (congrArg some (by kernel_rfl))
  f245 := Tryz.func193.trans (congrArg some (by kernel_rfl))
  f246 := Tryz.func257.trans (congrArg some (by kernel_rfl))
  f247 := Tryz.func252.trans (congrArg some (by kernel_rfl))
  f279 := Tryz.func253.trans (congrArg some (by kernel_rfl))
  f280 := Tryz.func254.trans (congrArg some (by kernel_rfl))
  f281 := Tryz.func255.trans (congrArg some (by kernel_rfl))
  f282 := Tryz.func256.trans (congrArg some (by kernel_rfl))
  f283 := Tryz.func300.trans (congrArg some (by kernel_rfl))
  f284 := Tryz.func301.trans (congrArg some (by kernel_rfl))
  f285 := Tryz.func302.trans (congrArg some (by kernel_rfl))
  f286 := Tryz.func303.trans (congrArg some (by kernel_rfl))
  f287 := Tryz.func297.trans (congrArg some (by kernel_rfl))
  f316 := Tryz.func298.trans (congrArg some (by kernel_rfl))
  f317 := Tryz.func345.trans (congrArg some (by kernel_rfl))
  f318 := Tryz.func346.trans (congrArg some (by kernel_rfl))
  f319 := Tryz.func347.trans (congrArg some (by kernel_rfl))
  f320 := Tryz.func348.trans (congrArg some (by kernel_rfl))
  f321 := Tryz.func343.trans (congrArg some (by kernel_rfl))
  f322 := Tryz.func344.trans (congrArg some (by kernel_rfl))
  f337 := Tryz.func365.trans (congrArg some (by kernel_rfl))
  f338 := Tryz.func366.trans (congrArg some (by kernel_rfl))
  t0 := Tryz.underlying0
  a0 := Tryz.isAgg0
  z0 := Tryz.sizeOf0
  v0 := Tryz.zeroValue0
  t2 := Tryz.underlying2
  a2 := Tryz.isAgg2
  z2 := Tryz.sizeOf2
  v2 := Tryz.zeroValue2
  t3 := Tryz.underlying3
  a3 := Tryz.isAgg3
  z3 := Tryz.sizeOf3
  v3 := Tryz.zeroValue3
  t4 := Tryz.underlying4
  a4 := Tryz.isAgg4
  z4 := Tryz.sizeOf4
  v4 := Tryz.zeroValue4
  t5 := Tryz.underlying5
  a5 := Tryz.isAgg5
  z5 := Tryz.sizeOf5
  v5 := Tryz.zeroValue5
  t9 := Tryz.underlying9
  a9 := Tryz.isAgg9
  z9 := Tryz.sizeOf9
  v9 := Tryz.zeroValue9
  t20 := Tryz.underlying20
  a20 := Tryz.isAgg20
  z20 := Tryz.sizeOf20
  v20 := Tryz.zeroValue20
  t21 := Tryz.underlying21
  a21 := Tryz.isAgg21
  z21 := Tryz.sizeOf21
  v21 := Tryz.zeroValue21
  t37 := Tryz.underlying51
  a37 := Tryz.isAgg51
  z37 := Tryz.sizeOf51
  v37 := Tryz.zeroValue51
  t46 := Tryz.underlying144
  a46 := Tryz.isAgg144
  z46 := Tryz.sizeOf144
  v46 := Tryz.zeroValue144
  t51 := Tryz.underlying277
  a51 := Tryz.isAgg277
  z51 := Tryz.sizeOf277
  v51 := Tryz.zeroValue277
  t53 := Tryz.underlying96
  a53 := Tryz.isAgg96
  z53 := Tryz.sizeOf96
  v53 := Tryz.zeroValue96
  t75 := Tryz.underlying78
  a75 := Tryz.isAgg78
  z75 := Tryz.sizeOf78
  v75 := Tryz.zeroValue78
  t76 := Tryz.underlying79
  a76 := Tryz.isAgg79
  z76 := Tryz.sizeOf79
  v76 := Tryz.zeroValue79
  t85 := Tryz.underlying233
  a85 := Tryz.isAgg233
  z85 := Tryz.sizeOf233
  v85 := Tryz.zeroValue233
  t127 := Tryz.underlying116
  a127 := Tryz.isAgg116
  z127 := Tryz.sizeOf116
  v127 := Tryz.zeroValue116
  t143 := Tryz.underlying296
  a143 := Tryz.isAgg296
  z143 := Tryz.sizeOf296
  v143 := Tryz.zeroValue296
  t145 := Tryz.underlying298
  a145 := Tryz.isAgg298
  z145 := Tryz.sizeOf298
  v145 := Tryz.zeroValue298
  t167 := Tryz.underlying232
  a167 := Tryz.isAgg232
  z167 := Tryz.sizeOf232
  v167 := Tryz.zeroValue232
  t168 := Tryz.underlying235
  a168 := Tryz.isAgg235
  z168 := Tryz.sizeOf235
  v168 := Tryz.zeroValue235
  t171 := Tryz.underlying263
  a171 := Tryz.isAgg263
  z171 := Tryz.sizeOf263
  v171 := Tryz.zeroValue263
  t173 := Tryz.underlying266
  a173 := Tryz.isAgg266
  z173 := Tryz.sizeOf266
  v173 := Tryz.zeroValue266
  t175 := Tryz.underlying258
  a175 := Tryz.isAgg258
  z175 := Tryz.sizeOf258
  v175 := Tryz.zeroValue258
  t210 := Tryz.underlying261
  a210 := Tryz.isAgg261
  z210 := Tryz.sizeOf261
  v210 := Tryz.zeroValue261
  t212 := Tryz.underlying300
  a212 := Tryz.isAgg300
  z212 := Tryz.sizeOf300
  v212 := Tryz.zeroValue300
  t213 := Tryz.underlying301
  a213 := Tryz.isAgg301
  z213 := Tryz.sizeOf301
  t232 := Tryz.underlying320
  a232 := Tryz.isAgg320
  z232 := Tryz.sizeOf320
  v232 := Tryz.zeroValue320
  t233 := Tryz.underlying321
  a233 := Tryz.isAgg321
  z233 := Tryz.sizeOf321
  v233 := Tryz.zeroValue321
  g15 := by kernel_rfl
  g16 := by kernel_rfl
  g17 := by kernel_rfl
  g18 := by kernel_rfl
  g19 := by kernel_rfl
  t80 := Tryz.underlying81
  a80 := Tryz.isAgg81
  z80 := Tryz.sizeOf81
  v80 := Tryz.zeroValue81
  i0 := by kernel_rfl
  i2 := by kernel_rfl
  i3 := by kernel_rfl
  i4 := by kernel_rfl
  i5 := by kernel_rfl
  i9 := by kernel_rfl
  i20 := by kernel_rfl
  i21 := by kernel_rfl
  i37 := by kernel_rfl
  i46 := by kernel_rfl
  i51 := by kernel_rfl
  i53 := by kernel_rfl
  i75 := by kernel_rfl
  i76 := by kernel_rfl
  i80 := by kernel_rfl
  i85 := by kernel_rfl
  i127 := by kernel_rfl
  i143 := by kernel_rfl
  i145 := by kernel_rfl
  i167 := by kernel_rfl
  i168 := by kernel_rfl
  i171 := by kernel_rfl
  i173 := by kernel_rfl
  i175 := by kernel_rfl
  i210 := by kernel_rfl
  i212 := by kernel_rfl
  i232 := by kernel_rfl
  i233 := by kernel_rfl
  m15 := by kernel_rfl
  m16 := by kernel_rfl
  m17 := by kernel_rfl
  m18 := by kernel_rfl
  m19 := by kernel_rfl
  c0 := by kernel_rfl
  c2 := by kernel_rfl
  c3 := by kernel_rfl
  c4 := by kernel_rfl
  c5 := by kernel_rfl
  c9 := by kernel_rfl
  c20 := by kernel_rfl
  c21 := by kernel_rfl
  c37 := by kernel_rfl
  c46 := by kernel_rfl
  c51 := by kernel_rfl
  c53 := by kernel_rfl
  c75 := by kernel_rfl
  c76 := by kernel_rfl
  c80 := by kernel_rfl
  c85 := by kernel_rfl
  c127 := by kernel_rfl
  c143 := by kernel_rfl
  c145 := by kernel_rfl
  c167 := by kernel_rfl
  c168 := by kernel_rfl
  c171 := by kernel_rfl
  c173 := by kernel_rfl
  c175 := by kernel_rfl
  c210 := by kernel_rfl
  c212 := by kernel_rfl
  c213 := by kernel_rfl
  c232 := by kernel_rfl
  c233 := by kernel_rfl }
open Go.RowKit in
theorem strconv_Atoi_ok (s : ByteArray) (hmax : s.size ≤ 9223372036854775806) (v : Int) (h : Lib.atoiAll s.data.toList = .ok v) (w : World) :
    Calls Tryz.prog 142 #[.string s] w fun e w' => e = .returned (.tuple #[.int .i64 v, .nilIface]) ∧ (w' = w ∨ ∃ t, w' = Lib.bytesWorld w 5 t) := Any.strconv_Atoi_ok laysC172 s hmax v h w
open Go.RowKit in
theorem strconv_Atoi_syntax (s : ByteArray) (hlim : s.size ≤ 281474976710656) (h : Lib.atoiAll s.data.toList = .«syntax») (ev : Value) (w : World) (hv : w.cell? ⟨1, 0, none⟩ = some ev) (hev : ev = .nilIface ∨ ∃ te pe, ev = .iface te pe) :
    Calls Tryz.prog 142 #[.string s] w fun e w' => ∃ N, e = .returned (.tuple #[.int .i64 (0), .iface 235 (.pointer (some ⟨N, 0, none⟩))]) ∧ w.heap.size ≤ N ∧ w'.heap[N]? = some (.cells #[.string ⟨#[65, 116, 111, 105]⟩, .string s, ev] 261 (0, 0)) ∧ Below w.heap.size w w' := Any.strconv_Atoi_syntax laysC172 s hlim h ev w hv hev
open Go.RowKit in
theorem strconv_Atoi_range (s : ByteArray) (hlim : s.size ≤ 281474976710656) (h : Lib.atoiAll s.data.toList = .range) (ev : Value) (w : World) (hv : w.cell? ⟨2, 0, none⟩ = some ev) (hev : ev = .nilIface ∨ ∃ te pe, ev = .iface te pe) :
    Calls Tryz.prog 142 #[.string s] w fun e w' => ∃ N, e = .returned (.tuple #[.int .i64 (Lib.atoiSat s.data.toList), .iface 235 (.pointer (some ⟨N, 0, none⟩))]) ∧ w.heap.size ≤ N ∧ w'.heap[N]? = some (.cells #[.string ⟨#[65, 116, 111, 105]⟩, .string s, ev] 261 (0, 0)) ∧ Below w.heap.size w w' := Any.strconv_Atoi_range laysC172 s hlim h ev w hv hev
def lays189_ren : Go.Shelf.Ren := ⟨fun | 189 => 225 | 125 => 277 | 257 => 285 | 128 => 321 | 129 => 322 | 294 => 332 | 295 => 333 | 296 => 334 | 297 => 335 | 298 => 336 | 299 => 337 | 216 => 338 | 300 => 339 | 301 => 340 | 328 => 362 | 329 => 355 | 330 => 356 | 331 => 363 | 332 => 364 | 215 => 115 | 343 => 370 | n => n, fun | 28 => 26 | 3 => 3 | 46 => 144 | 0 => 0 | 51 => 277 | 53 => 96 | 4 => 4 | 183 => 271 | 182 => 270 | 131 => 137 | 5 => 5 | 9 => 9 | 218 => 305 | 222 => 309 | 228 => 316 | 229 => 145 | n => n, fun | n => n⟩
theorem lays189 : Go.Proofs.Lays.n189 Tryz.prog lays189_ren := {
  mixed := by kernel_rfl
  f125 := Tryz.func277.trans (congrArg some (by kernel_rfl))
  f128 := Tryz.func321.trans (congrArg some (by kernel_rfl))
  f129 := Tryz.func322.trans (congrArg some (by kernel_rfl))
  f189 := Tryz.func225.trans (congrArg some (by kernel_rfl))
  f215 := Tryz.func115.trans (congrArg some (by kernel_rfl))
  f216 := Tryz.func338.trans (congrArg some (by kernel_rfl))
  f257 := Tryz.func285.trans (congrArg some (by kernel_rfl))
  f294 := Tryz.func332.trans (congrArg some (by kernel_rfl))
  f295 := Tryz.func333.trans (congrArg some (by kernel_rfl))
  f296 := Tryz.func334.trans (congrArg some (by kernel_rfl))
  f297 := Tryz.func335.trans (congrArg some (by kernel_rfl))
  f298 := Tryz.func336.trans (congrArg some (by kernel_rfl))
  f299 := Tryz.func337.trans (congrArg some (by kernel_rfl))
  f300 := Tryz.func339.trans (congrArg some (by kernel_rfl))
  f301 := Tryz.func340.trans (congrArg some (by kernel_rfl))
  f328 := Tryz.func362.trans (congrArg some (by kernel_rfl))
  f329 := Tryz.func355.trans (congrArg some (by kernel_rfl))
  f330 := Tryz.func356.trans (congrArg some (by kernel_rfl))
  f331 := Tryz.func363.trans (congrArg some (by kernel_rfl))
  f332 := Tryz.func364.trans (congrArg some (by kernel_rfl))
  f343 := Tryz.func370.trans (congrArg some (by kernel_rfl))
  t0 := Tryz.underlying0
  a0 := Tryz.isAgg0
  z0 := Tryz.sizeOf0
  v0 := Tryz.zeroValue0
  t3 := Tryz.underlying3
  a3 := Tryz.isAgg3
  z3 := Tryz.sizeOf3
  v3 := Tryz.zeroValue3
  t4 := Tryz.underlying4
  a4 := Tryz.isAgg4
  z4 := Tryz.sizeOf4
  v4 := Tryz.zeroValue4
  t5 := Tryz.underlying5
  a5 := Tryz.isAgg5
  z5 := Tryz.sizeOf5
  v5 := Tryz.zeroValue5
  t9 := Tryz.underlying9
  a9 := Tryz.isAgg9
  z9 := Tryz.sizeOf9
  v9 := Tryz.zeroValue9
  t28 := Tryz.underlying26
  a28 := Tryz.isAgg26
  z28 := Tryz.sizeOf26
  v28 := Tryz.zeroValue26
  t46 := Tryz.underlying144
  a46 := Tryz.isAgg144
  z46 := Tryz.sizeOf144
  v46 := Tryz.zeroValue144
  t51 := Tryz.underlying277
  a51 := Tryz.isAgg277
  z51 := Tryz.sizeOf277
  v51 := Tryz.zeroValue277
  t53 := Tryz.underlying96
  a53 := Tryz.isAgg96
  z53 := Tryz.sizeOf96
  v53 := Tryz.zeroValue96
  t131 := Tryz.underlying137
  a131 := Tryz.isAgg137
  z131 := Tryz.sizeOf137
  v131 := Tryz.zeroValue137
  t182 := Tryz.underlying270
  a182 := Tryz.isAgg270
  z182 := Tryz.sizeOf270
  v182 := Tryz.zeroValue270
  t183 := Tryz.underlying271
  a183 := Tryz.isAgg271
  z183 := Tryz.sizeOf271
  v183 := Tryz.zeroValue271
  t218 := Tryz.underlying305
  a218 := Tryz.isAgg305
  z218 := Tryz.sizeOf305
  v218 := Tryz.zeroValue305
  t222 := Tryz.underlying309
  a222 := Tryz.isAgg309
  z222 := Tryz.sizeOf309
  v222 := Tryz.zeroValue309
  t228 := Tryz.underlying316
  a228 := Tryz.isAgg316
  z228 := Tryz.sizeOf316
  v228 := Tryz.zeroValue316
  t229 := Tryz.underlying145
  a229 := Tryz.isAgg145
  z229 := Tryz.sizeOf145
  v229 := Tryz.zeroValue145 }
open Go.Sort Go.RowKit in
theorem slices_Sort_int (blk off cap : Nat) (zs : List Int) (w : World) (hH : Holds (Value.int .i64) w blk off zs.toArray) (hblk : blk < w.heap.size) (hsz : zs.length < 4611686018427387904) :
    Calls Tryz.prog 225 #[.slice (some ⟨blk, off, none⟩) zs.length cap] w fun e w' =>
      e = .returned (.tuple #[]) ∧ ∃ n os, w' = grow (putRow (Value.int .i64) (Sort.ahead w n) blk off (zs.mergeSort fun x y => decide (x ≤ y)).toArray) os := Any.slices_Sort_int lays189 blk off cap zs w hH hblk hsz
def lays146_ren : Go.Shelf.Ren := ⟨fun | 146 => 105 | 221 => 141 | 268 => 189 | 138 => 190 | 143 => 191 | 195 => 248 | 197 => 249 | 218 => 250 | 219 => 251 | 260 => 292 | 217 => 293 | 225 => 294 | 224 => 295 | 267 => 296 | 266 => 341 | 314 => 342 | n => n, fun | 9 => 9 | 31 => 69 | 3 => 3 | 4 => 4 | 0 => 0 | 105 => 229 | 21 => 21 | 5 => 5 | 46 => 144 | 119 => 289 | 139 => 292 | 138 => 291 | 146 => 293 | 51 => 277 | n => n, fun | 1 => 0 | 3 => 3 | 4 => 4 | n => n⟩
theorem lays146 : Go.Proofs.Lays.n146 Tryz.prog lays146_ren := {
  mixed := by kernel_rfl
  f138 := Tryz.func190.trans (congrArg some (by kernel_rfl))
  f143 := Tryz.func191.trans (congrArg some (by kernel_rfl))
  f146 := Tryz.func105.trans (congrArg some (by kernel_rfl))
  f195 := Tryz.func248.trans (congrArg some (by kernel_rfl))
  f197 := Tryz.func249.trans (congrArg some (by kernel_rfl))
  f217 := Tryz.func293.trans (congrArg some (by kernel_rfl))
  f218 := Tryz.func250.trans (congrArg some (by kernel_rfl))
  f219 := Tryz.func251.trans (congrArg some (by kernel_rfl))
  f221 := Tryz.func141.trans (congrArg some (by kernel_rfl))
  f224 := Tryz.func295.trans (congrArg some (by kernel_rfl))
  f225 := Tryz.func294.trans (congrArg some (by kernel_rfl))
  f260 := Tryz.func292.trans (congrArg some (by kernel_rfl))
  f266 := Tryz.func341.trans (congrArg some (by kernel_rfl))
  f267 := Tryz.func296.trans (congrArg some (by kernel_rfl))
  f268 := Tryz.func189.trans (congrArg some (by kernel_rfl))
  f314 := Tryz.func342.trans (congrArg some (by kernel_rfl))
  t0 := Tryz.underlying0
  a0 := Tryz.isAgg0
  z0 := Tryz.sizeOf0
  v0 := Tryz.zeroValue0
  t3 := Tryz.underlying3
  a3 := Tryz.isAgg3
  z3 := Tryz.sizeOf3
  v3 := Tryz.zeroValue3
  t4 := Tryz.underlying4
  a4 := Tryz.isAgg4
  z4 := Tryz.sizeOf4
  v4 := Tryz.zeroValue4
  t5 := Tryz.underlying5
  a5 := Tryz.isAgg5
  z5 := Tryz.sizeOf5
  v5 := Tryz.zeroValue5
  t9 := Tryz.underlying9
  a9 := Tryz.isAgg9
  z9 := Tryz.sizeOf9
  v9 := Tryz.zeroValue9
  t21 := Tryz.underlying21
  a21 := Tryz.isAgg21
  z21 := Tryz.sizeOf21
  v21 := Tryz.zeroValue21
  t31 := Tryz.underlying69
  a31 := Tryz.isAgg69
  z31 := Tryz.sizeOf69
  v31 := Tryz.zeroValue69
  t46 := Tryz.underlying144
  a46 := Tryz.isAgg144
  z46 := Tryz.sizeOf144
  v46 := Tryz.zeroValue144
  t51 := Tryz.underlying277
  a51 := Tryz.isAgg277
  z51 := Tryz.sizeOf277
  v51 := Tryz.zeroValue277
  t105 := Tryz.underlying229
  a105 := Tryz.isAgg229
  z105 := Tryz.sizeOf229
  v105 := Tryz.zeroValue229
  t119 := Tryz.underlying289
  a119 := Tryz.isAgg289
  z119 := Tryz.sizeOf289
  t138 := Tryz.underlying291
  a138 := Tryz.isAgg291
  z138 := Tryz.sizeOf291
  v138 := Tryz.zeroValue291
  t139 := Tryz.underlying292
  a139 := Tryz.isAgg292
  z139 := Tryz.sizeOf292
  v139 := Tryz.zeroValue292
  t146 := Tryz.underlying293
  a146 := Tryz.isAgg293
  z146 := Tryz.sizeOf293
  v146 := Tryz.zeroValue293
  g1 := by kernel_rfl
  g3 := by kernel_rfl
  g4 := by kernel_rfl }
open Go.RowKit Go.Lib in
theorem strings_Split (s sep : ByteArray) (m : Int) (w : World) (hs : s.size < 4294967281) (hm : w.cell? ⟨0, 0, none⟩ = some (.int .i64 m)) (h1 : 1 ≤ sep.size) :
    Calls Tryz.prog 105 #[.string s, .string sep] w fun e w' =>
      e = .returned (.slice (some ⟨w.heap.size, 0, none⟩) (Lib.countB s sep + 1) (Lib.countB s sep + 1)) ∧ w' = w.alloc (.cells ((Lib.splitB sep 0 (Lib.countB s sep) s).map Value.string).toArray 9) := Any.strings_Split lays146 (by kernel_rfl) s sep m w hs hm h1
def sortLayFog_ren : Go.Shelf.Ren := ⟨fun | 6 => 215 | 15 => 277 | 14 => 276 | 28 => 321 | 29 => 322 | 20 => 313 | 21 => 314 | 22 => 315 | 23 => 316 | 24 => 317 | 25 => 318 | 26 => 319 | 27 => 320 | 46 => 354 | 47 => 355 | 48 => 356 | 49 => 357 | 50 => 358 | 57 => 368 | n => n, fun | 22 => 65 | 24 => 155 | 25 => 210 | 3 => 3 | 39 => 144 | 0 => 0 | 53 => 277 | 55 => 96 | 4 => 4 | 46 => 271 | 45 => 270 | 50 => 137 | 5 => 5 | 9 => 9 | 66 => 305 | 70 => 309 | 76 => 316 | 77 => 145 | n => n, fun | n => n⟩
theorem sortLayFog : Go.Proofs.SlLaysF0.n6 Tryz.prog sortLayFog_ren := {
  mixed := by kernel_rfl
  f6 := ⟨Tryz.f215.name, by decide, Tryz.func215.trans (congrArg some (by kernel_rfl))⟩
  f14 := ⟨Tryz.f276.name, by decide, Tryz.func276.trans (congrArg some (by kernel_rfl))⟩
  f15 := Tryz.func277.trans (congrArg some (by kernel_rfl))
  f20 := ⟨Tryz.f313.name, by decide, Tryz.func313.trans (congrArg some (by kernel_rfl))⟩
  f21 := ⟨Tryz.f314.name, by decide, Tryz.func314.trans (congrArg some (by kernel_rfl))⟩
  f22 := ⟨Tryz.f315.name, by decide, Tryz.func315.trans (congrArg some (by kernel_rfl))⟩
  f23 := ⟨Tryz.f316.name, by decide, Tryz.func316.trans (congrArg some (by kernel_rfl))⟩
  f24 := ⟨Tryz.f317.name, by decide, Tryz.func317.trans (congrArg some (by kernel_rfl))⟩
  f25 := ⟨Tryz.f318.name, by decide, Tryz.func318.trans (congrArg some (by kernel_rfl))⟩
  f26 := ⟨Tryz.f319.name, by decide, Tryz.func319.trans (congrArg some (by kernel_rfl))⟩
  f27 := ⟨Tryz.f320.name, by decide, Tryz.func320.trans (congrArg some (by kernel_rfl))⟩
  f28 := Tryz.func321.trans (congrArg some (by kernel_rfl))
  f29 := Tryz.func322.trans (congrArg some (by kernel_rfl))
  f46 := ⟨Tryz.f354.name, by decide, Tryz.func354.trans (congrArg some (by kernel_rfl))⟩
  f47 := Tryz.func355.trans (congrArg some (by kernel_rfl))
  f48 := Tryz.func356.trans (congrArg some (by kernel_rfl))
  f49 := ⟨Tryz.f357.name, by decide, Tryz.func357.trans (congrArg some (by kernel_rfl))⟩
  f50 := ⟨Tryz.f358.name, by decide, Tryz.func358.trans (congrArg some (by kernel_rfl))⟩
  f57 := ⟨Tryz.f368.name, by decide, Tryz.func368.trans (congrArg some (by kernel_rfl))⟩
  t0 := Tryz.underlying0
  a0 := Tryz.isAgg0
  z0 := Tryz.sizeOf0
  v0 := Tryz.zeroValue0
  t3 := Tryz.underlying3
  a3 := Tryz.isAgg3
  z3 := Tryz.sizeOf3
  v3 := Tryz.zeroValue3
  t4 := Tryz.underlying4
  a4 := Tryz.isAgg4
  z4 := Tryz.sizeOf4
  v4 := Tryz.zeroValue4
  t5 := Tryz.underlying5
  a5 := Tryz.isAgg5
  z5 := Tryz.sizeOf5
  v5 := Tryz.zeroValue5
  t9 := Tryz.underlying9
  a9 := Tryz.isAgg9
  z9 := Tryz.sizeOf9
  v9 := Tryz.zeroValue9
  t22 := Tryz.underlying65
  a22 := Tryz.isAgg65
  z22 := Tryz.sizeOf65
  v22 := Tryz.zeroValue65
  t25 := Tryz.underlying210
  a25 := Tryz.isAgg210
  z25 := Tryz.sizeOf210
  v25 := Tryz.zeroValue210
  t39 := Tryz.underlying144
  a39 := Tryz.isAgg144
  z39 := Tryz.sizeOf144
  v39 := Tryz.zeroValue144
  t45 := Tryz.underlying270
  a45 := Tryz.isAgg270
  z45 := Tryz.sizeOf270
  v45 := Tryz.zeroValue270
  t46 := Tryz.underlying271
  a46 := Tryz.isAgg271
  z46 := Tryz.sizeOf271
  v46 := Tryz.zeroValue271
  t50 := Tryz.underlying137
  a50 := Tryz.isAgg137
  z50 := Tryz.sizeOf137
  v50 := Tryz.zeroValue137
  t53 := Tryz.underlying277
  a53 := Tryz.isAgg277
  z53 := Tryz.sizeOf277
  v53 := Tryz.zeroValue277
  t55 := Tryz.underlying96
  a55 := Tryz.isAgg96
  z55 := Tryz.sizeOf96
  v55 := Tryz.zeroValue96
  t66 := Tryz.underlying305
  a66 := Tryz.isAgg305
  z66 := Tryz.sizeOf305
  v66 := Tryz.zeroValue305
  t70 := Tryz.underlying309
  a70 := Tryz.isAgg309
  z70 := Tryz.sizeOf309
  v70 := Tryz.zeroValue309
  t76 := Tryz.underlying316
  a76 := Tryz.isAgg316
  z76 := Tryz.sizeOf316
  v76 := Tryz.zeroValue316
  t77 := Tryz.underlying145
  a77 := Tryz.isAgg145
  z77 := Tryz.sizeOf145
  v77 := Tryz.zeroValue145 }
def sortLayShift_ren : Go.Shelf.Ren := ⟨fun | 6 => 222 | 15 => 277 | 14 => 282 | 28 => 321 | 29 => 322 | 20 => 323 | 21 => 324 | 22 => 325 | 23 => 326 | 24 => 327 | 25 => 328 | 26 => 329 | 27 => 330 | 46 => 359 | 47 => 355 | 48 => 356 | 49 => 360 | 50 => 361 | 57 => 369 | n => n, fun | 22 => 68 | 24 => 159 | 25 => 215 | 3 => 3 | 39 => 144 | 0 => 0 | 53 => 277 | 55 => 96 | 4 => 4 | 46 => 271 | 45 => 270 | 50 => 137 | 5 => 5 | 9 => 9 | 66 => 305 | 70 => 309 | 76 => 316 | 77 => 145 | n => n, fun | n => n⟩
theorem sortLayShift : Go.Proofs.SlLaysF0.n6 Tryz.prog sortLayShift_ren := {
  mixed := by kernel_rfl
  f6 := ⟨Tryz.f222.name, by decide, Tryz.func222.trans (congrArg some (by kernel_rfl))⟩
  f14 := ⟨Tryz.f282.name, by decide, Tryz.func282.trans (congrArg some (by kernel_rfl))⟩
  f15 := Tryz.func277.trans (congrArg some (by kernel_rfl))
  f20 := ⟨Tryz.f323.name, by decide, Tryz.func323.trans (congrArg some (by kernel_rfl))⟩
  f21 := ⟨Tryz.f324.name, by decide, Tryz.func324.trans (congrArg some (by kernel_rfl))⟩
  f22 := ⟨Tryz.f325.name, by decide, Tryz.func325.trans (congrArg some (by kernel_rfl))⟩
  f23 := ⟨Tryz.f326.name, by decide, Tryz.func326.trans (congrArg some (by kernel_rfl))⟩
  f24 := ⟨Tryz.f327.name, by decide, Tryz.func327.trans (congrArg some (by kernel_rfl))⟩
  f25 := ⟨Tryz.f328.name, by decide, Tryz.func328.trans (congrArg some (by kernel_rfl))⟩
  f26 := ⟨Tryz.f329.name, by decide, Tryz.func329.trans (congrArg some (by kernel_rfl))⟩
  f27 := ⟨Tryz.f330.name, by decide, Tryz.func330.trans (congrArg some (by kernel_rfl))⟩
  f28 := Tryz.func321.trans (congrArg some (by kernel_rfl))
  f29 := Tryz.func322.trans (congrArg some (by kernel_rfl))
  f46 := ⟨Tryz.f359.name, by decide, Tryz.func359.trans (congrArg some (by kernel_rfl))⟩
  f47 := Tryz.func355.trans (congrArg some (by kernel_rfl))
  f48 := Tryz.func356.trans (congrArg some (by kernel_rfl))
  f49 := ⟨Tryz.f360.name, by decide, Tryz.func360.trans (congrArg some (by kernel_rfl))⟩
  f50 := ⟨Tryz.f361.name, by decide, Tryz.func361.trans (congrArg some (by kernel_rfl))⟩
  f57 := ⟨Tryz.f369.name, by decide, Tryz.func369.trans (congrArg some (by kernel_rfl))⟩
  t0 := Tryz.underlying0
  a0 := Tryz.isAgg0
  z0 := Tryz.sizeOf0
  v0 := Tryz.zeroValue0
  t3 := Tryz.underlying3
  a3 := Tryz.isAgg3
  z3 := Tryz.sizeOf3
  v3 := Tryz.zeroValue3
  t4 := Tryz.underlying4
  a4 := Tryz.isAgg4
  z4 := Tryz.sizeOf4
  v4 := Tryz.zeroValue4
  t5 := Tryz.underlying5
  a5 := Tryz.isAgg5
  z5 := Tryz.sizeOf5
  v5 := Tryz.zeroValue5
  t9 := Tryz.underlying9
  a9 := Tryz.isAgg9
  z9 := Tryz.sizeOf9
  v9 := Tryz.zeroValue9
  t22 := Tryz.underlying68
  a22 := Tryz.isAgg68
  z22 := Tryz.sizeOf68
  v22 := Tryz.zeroValue68
  t25 := Tryz.underlying215
  a25 := Tryz.isAgg215
  z25 := Tryz.sizeOf215
  v25 := Tryz.zeroValue215
  t39 := Tryz.underlying144
  a39 := Tryz.isAgg144
  z39 := Tryz.sizeOf144
  v39 := Tryz.zeroValue144
  t45 := Tryz.underlying270
  a45 := Tryz.isAgg270
  z45 := Tryz.sizeOf270
  v45 := Tryz.zeroValue270
  t46 := Tryz.underlying271
  a46 := Tryz.isAgg271
  z46 := Tryz.sizeOf271
  v46 := Tryz.zeroValue271
  t50 := Tryz.underlying137
  a50 := Tryz.isAgg137
  z50 := Tryz.sizeOf137
  v50 := Tryz.zeroValue137
  t53 := Tryz.underlying277
  a53 := Tryz.isAgg277
  z53 := Tryz.sizeOf277
  v53 := Tryz.zeroValue277
  t55 := Tryz.underlying96
  a55 := Tryz.isAgg96
  z55 := Tryz.sizeOf96
  v55 := Tryz.zeroValue96
  t66 := Tryz.underlying305
  a66 := Tryz.isAgg305
  z66 := Tryz.sizeOf305
  v66 := Tryz.zeroValue305
  t70 := Tryz.underlying309
  a70 := Tryz.isAgg309
  z70 := Tryz.sizeOf309
  v70 := Tryz.zeroValue309
  t76 := Tryz.underlying316
  a76 := Tryz.isAgg316
  z76 := Tryz.sizeOf316
  v76 := Tryz.zeroValue316
  t77 := Tryz.underlying145
  a77 := Tryz.isAgg145
  z77 := Tryz.sizeOf145
  v77 := Tryz.zeroValue145 }
theorem itoaSound : Sound Tryz.prog 143 ⟨[.val (.int .i64)], [.val .str], fun x => itoaF x⟩ :=
  itoa_sound (g := 5) (by kernel_rfl) (fun n w h0 h1 ht => strconv_Itoa n h0 h1 w ht) (by simp [Tabs.l])
theorem joinSound : Sound Tryz.prog 199 ⟨[.val (.slice .str), .val .str], [.val .str], fun x => joinF x.1 x.2⟩ :=
  join_sound (fun a c sep w => strings_Join_none a c sep w) (fun bk o c xs sep w h1 h2 h3 h4 h5 => strings_Join bk o c xs sep w h1 h2 h3 h4 h5)
theorem splitSound : Sound Tryz.prog 105 ⟨[.val .str, .val .str], [.own (.slice .str)], fun x => splitF x.1 x.2⟩ :=
  split_sound (g := 0) (fun s sep n w h1 h2 h3 => strings_Split s sep n w h1 h2 h3) (by simp [Tabs.l])
end Go.Proofs.YtkemmodgpafkmaaGreatDoor.Sh
namespace Go.Proofs.YtkemmodgpafkmaaGreatDoor.Sh
open Go Go.Ab Go.Proofs Go.Shelf Go.RowKit Go.Sort
abbrev T3 : Ty := .pair (.int .i64) (.pair (.int .i64) (.pair (.int .i64) .unit))
abbrev G3 : Type := Int × Int × Int × Unit
def leI (x y : Int) : Bool := decide (x ≤ y)
def sortIntF (l : List Int) : Option (List Int) := sortL (fun l => l.mergeSort leI) l
theorem sortIntSound : Sound Tryz.prog 225 ⟨[.own (.slice (.int .i64))], [], fun x => sortIntF x⟩ :=
  sort_sound flat_int (by decide) (fun xs => List.mergeSort_perm xs leI) (fun a w => Any.slices_Sort_int_none lays189 a 0 w) (fun g cap xs w hH hb hl => by
    refine Calls.mono (slices_Sort_int g 0 cap xs w (sfHolds1 (c := Value.int .i64) (show HoldsK (fun x => [Value.int .i64 x]) 1 w g 0 xs.toArray from hH)) hb hl) ?_
    rintro e w' ⟨he, n, os, hw⟩
    exact ⟨he, n, os, by rw [hw, sfPut1]; rfl⟩)
set_option maxHeartbeats 1000000 in
theorem isnan_w (x : Int) (W : World) : Calls Tryz.prog 115 #[.int .i64 x] W fun e w' => e = .returned (.bool false) ∧ w' = W := by
  go_enter Tryz.func115, Tryz.ntmps115
  go_wp2
  go_ret
  exact ⟨by simp, rfl⟩
set_option maxHeartbeats 1000000 in
theorem compare_w (x y : Int) (W : World) : Calls Tryz.prog 87 #[.int .i64 x, .int .i64 y] W fun e w' => e = .returned (.int .i64 (Lib.compareInt x y)) ∧ w' = W := by
  go_enter Tryz.func87, Tryz.ntmps87
  go_wp2_with (go_at_call 115; refine (isnan_w _ _).mono ?_; rintro e w' ⟨rfl, hw⟩; rw [hw])
  all_goals (go_ret; refine ⟨?_, rfl⟩; unfold Lib.compareInt; (repeat' split) <;> first | rfl | (exfalso; omega))
def orI (a b : Int) : Int := if a ≠ 0 then a else b
set_option maxHeartbeats 1000000 in
theorem or_w (a c : Int) (b cap : Nat) (W : World) (h0 : W.cell? ⟨b, 0, none⟩ = some (.int .i64 a)) (h1 : W.cell? ⟨b, 1, none⟩ = some (.int .i64 c)) : Calls Tryz.prog 86 #[.slice (some ⟨b, 0, none⟩) 2 cap] W fun e w' => e = .returned (.int .i64 (orI a c)) ∧ w' = W := by
  by_cases ha : a = 0
  · subst ha
    by_cases hc : c = 0
    · subst hc
      go_enter Tryz.func86, Tryz.ntmps86
      go_wp2
      refine wp_loop_rounds 3 ?_
      rw [rounds_succ]
      go_wp2
      rw [rounds_succ]
      go_wp2
      rw [rounds_succ]
      go_wp2
      go_ret
      exact ⟨rfl, rfl⟩
    · have hc' : (c != 0) = true := by simpa using hc
      go_enter Tryz.func86, Tryz.ntmps86
      go_wp2
      refine wp_loop_rounds 3 ?_
      rw [rounds_succ]
      go_wp2
      rw [rounds_succ]
      go_wp2
      go_ret
      exact ⟨by simp [orI], rfl⟩
  · have ha' : (a != 0) = true := by simpa using ha
    go_enter Tryz.func86, Tryz.ntmps86
    go_wp2
    refine wp_loop_rounds 3 ?_
    rw [rounds_succ]
    go_wp2
    go_ret
    exact ⟨by simp [orI, ha], rfl⟩
end Go.Proofs.YtkemmodgpafkmaaGreatDoor.Sh
namespace Go.Proofs.YtkemmodgpafkmaaGreatDoor.Sh
open Go Go.Ab Go.Proofs Go.Shelf Go.RowKit Go.Sort
theorem last_cell (W : World) (A B C : Array Value) (t1 t2 t3 : TypeId) (i : Nat) (v : Value) (h : C[i]? = some v) : ((((W.alloc (.cells A t1)).alloc (.cells B t2)).alloc (.cells C t3)).drew).cell? ⟨W.heap.size + 1 + 1, i, none⟩ = some v := by
  have e : ((((W.alloc (.cells A t1)).alloc (.cells B t2)).alloc (.cells C t3)).drew).heap[W.heap.size + 1 + 1]? = some (.cells C t3 (0, 0)) := by
    show (((W.heap.push _).push _).push _)[W.heap.size + 1 + 1]? = _
    rw [show W.heap.size + 1 + 1 = ((W.heap.push (.cells A t1)).push (.cells B t2)).size by simp]
    exact Array.getElem?_push_size
  unfold World.cell?
  rw [e]
  simpa using h
set_option maxHeartbeats 4000000 in
set_option maxRecDepth 100000 in
theorem fog_w (x0 x1 x2 y0 y1 y2 : Int) (W : World) : Calls Tryz.prog 216 #[.agg #[.int .i64 x0, .int .i64 x1, .int .i64 x2], .agg #[.int .i64 y0, .int .i64 y1, .int .i64 y2]] W fun e w' => e = .returned (.int .i64 (orI (Lib.compareInt x0 y0) (Lib.compareInt x1 y1))) ∧ ∃ q os', w' = grow (W.drewN q) os' := by
  have hcon := fun x y W' => compare_w x y W'
  have hor := fun a c b cap W' => or_w a c b cap W'
  generalize hr1 : Lib.compareInt x0 y0 = r1 at *
  generalize hr2 : Lib.compareInt x1 y1 = r2 at *
  have k1 : ∀ W', Calls Tryz.prog 87 #[.int .i64 x0, .int .i64 y0] W' fun e w' => e = .returned (.int .i64 r1) ∧ w' = W' := fun W' => hr1 ▸ hcon x0 y0 W'
  have k2 : ∀ W', Calls Tryz.prog 87 #[.int .i64 x1, .int .i64 y1] W' fun e w' => e = .returned (.int .i64 r2) ∧ w' = W' := fun W' => hr2 ▸ hcon x1 y1 W'
  clear hcon hr1 hr2
  go_enter Tryz.func216, Tryz.ntmps216
  go_wp
  go_region_held3 (fun w' => w'.cell? ⟨W.heap.size, 0, none⟩ = some (.int .i64 x0) ∧ w'.cell? ⟨W.heap.size, 1, none⟩ = some (.int .i64 x1) ∧ w'.cell? ⟨W.heap.size + 1, 0, none⟩ = some (.int .i64 y0) ∧ w'.cell? ⟨W.heap.size + 1, 1, none⟩ = some (.int .i64 y1)) (go_keep)
    (first
      | (go_at_call_of 87 (Value.int .i64 x0); refine (k1 _).mono ?_; rintro e w' ⟨rfl, rfl⟩)
      | (go_at_call_of 87 (Value.int .i64 x1); refine (k2 _).mono ?_; rintro e w' ⟨rfl, rfl⟩)
      | (go_at_call 86; refine (hor r1 r2 _ _ _ (last_cell _ _ _ _ _ _ _ _ _ rfl) (last_cell _ _ _ _ _ _ _ _ _ rfl)).mono ?_; rintro e w' ⟨rfl, rfl⟩))
  all_goals go_wp2
  all_goals go_ret
  all_goals exact ⟨rfl, 1, _, by rw [alloc_eq_grow, alloc_eq_grow, alloc_eq_grow, grow_grow, grow_grow]; rfl⟩
set_option maxHeartbeats 4000000 in
set_option maxRecDepth 100000 in
theorem shift_w (x0 x1 x2 y0 y1 y2 : Int) (W : World) : Calls Tryz.prog 223 #[.agg #[.int .i64 x0, .int .i64 x1, .int .i64 x2], .agg #[.int .i64 y0, .int .i64 y1, .int .i64 y2]] W fun e w' => e = .returned (.int .i64 (orI (Lib.compareInt x1 y1) (Lib.compareInt x0 y0))) ∧ ∃ q os', w' = grow (W.drewN q) os' := by
  have hcon := fun x y W' => compare_w x y W'
  have hor := fun a c b cap W' => or_w a c b cap W'
  generalize hr1 : Lib.compareInt x1 y1 = r1 at *
  generalize hr2 : Lib.compareInt x0 y0 = r2 at *
  have k1 : ∀ W', Calls Tryz.prog 87 #[.int .i64 x1, .int .i64 y1] W' fun e w' => e = .returned (.int .i64 r1) ∧ w' = W' := fun W' => hr1 ▸ hcon x1 y1 W'
  have k2 : ∀ W', Calls Tryz.prog 87 #[.int .i64 x0, .int .i64 y0] W' fun e w' => e = .returned (.int .i64 r2) ∧ w' = W' := fun W' => hr2 ▸ hcon x0 y0 W'
  clear hcon hr1 hr2
  go_enter Tryz.func223, Tryz.ntmps223
  go_wp
  go_region_held3 (fun w' => w'.cell? ⟨W.heap.size, 1, none⟩ = some (.int .i64 x1) ∧ w'.cell? ⟨W.heap.size, 0, none⟩ = some (.int .i64 x0) ∧ w'.cell? ⟨W.heap.size + 1, 1, none⟩ = some (.int .i64 y1) ∧ w'.cell? ⟨W.heap.size + 1, 0, none⟩ = some (.int .i64 y0)) (go_keep)
    (first
      | (go_at_call_of 87 (Value.int .i64 x1); refine (k1 _).mono ?_; rintro e w' ⟨rfl, rfl⟩)
      | (go_at_call_of 87 (Value.int .i64 x0); refine (k2 _).mono ?_; rintro e w' ⟨rfl, rfl⟩)
      | (go_at_call 86; refine (hor r1 r2 _ _ _ (last_cell _ _ _ _ _ _ _ _ _ rfl) (last_cell _ _ _ _ _ _ _ _ _ rfl)).mono ?_; rintro e w' ⟨rfl, rfl⟩))
  all_goals go_wp2
  all_goals go_ret
  all_goals exact ⟨rfl, 1, _, by rw [alloc_eq_grow, alloc_eq_grow, alloc_eq_grow, grow_grow, grow_grow]; rfl⟩
def lex (a b c d : Int) : Prop := a < c ∨ (a = c ∧ b < d)
theorem lt_or (a b c d : Int) : orI (Lib.compareInt a c) (Lib.compareInt b d) < 0 ↔ lex a b c d := by
  unfold orI Lib.compareInt lex
  (repeat' split) <;> simp_all <;> omega
def cmpF (x y : G3) : Int := orI (Lib.compareInt x.1 y.1) (Lib.compareInt x.2.1 y.2.1)
def cmpS (x y : G3) : Int := orI (Lib.compareInt x.2.1 y.2.1) (Lib.compareInt x.1 y.1)
theorem swoF : SWO (ltOf cmpF) where
  irrefl x := by simp only [ltOf, cmpF, lt_or, lex, decide_eq_false_iff_not]; omega
  trans x y z h1 h2 := by simp only [ltOf, cmpF, lt_or, lex, decide_eq_true_eq] at *; omega
  ntrans x y z h1 h2 := by simp only [ltOf, cmpF, lt_or, lex, decide_eq_false_iff_not] at *; omega
theorem swoS : SWO (ltOf cmpS) where
  irrefl x := by simp only [ltOf, cmpS, lt_or, lex, decide_eq_false_iff_not]; omega
  trans x y z h1 h2 := by simp only [ltOf, cmpS, lt_or, lex, decide_eq_true_eq] at *; omega
  ntrans x y z h1 h2 := by simp only [ltOf, cmpS, lt_or, lex, decide_eq_false_iff_not] at *; omega
def pdqL (cf : G3 → G3 → Int) (l : List G3) : List G3 := (pdq (ltOf cf) l.toArray 0 l.length (Lib.bitLen l.length) true true).toList
theorem enc3_len (x : G3) : (Ab.enc3 x).length = 3 := rfl
theorem enc3_one (x : G3) : ∀ v ∈ Ab.enc3 x, v.oneCell' = true := by
  intro v hv
  simp only [Ab.enc3, List.mem_cons, List.not_mem_nil, or_false] at hv
  rcases hv with rfl | rfl | rfl <;> rfl
theorem enters216 : ∀ args w, (callFunc 216 args).run Tryz.prog w = .ok (.enter 216 args) w := enters_of Tryz.func216 (by kernel_rfl) rfl
theorem enters223 : ∀ args w, (callFunc 223 args).run Tryz.prog w = .ok (.enter 223 args) w := enters_of Tryz.func223 (by kernel_rfl) rfl
theorem pdqL_sorts {cf : G3 → G3 → Int} (hO : SWO (ltOf cf)) (l : List G3) : PermIn 0 l.length l.toArray (pdqL cf l).toArray ∧ SortedIn (ltOf cf) 0 l.length (pdqL cf l).toArray := by
  have := pdq_sorts (ltOf cf) hO l.toArray 0 l.length (Lib.bitLen l.length) true true (Nat.zero_le _) (by simp) (Or.inl rfl)
  simpa [pdqL] using this
theorem pdqL_perm {cf : G3 → G3 → Int} (hO : SWO (ltOf cf)) (l : List G3) : (pdqL cf l).Perm l := by
  obtain ⟨h1, _, h3⟩ := (pdqL_sorts hO l).1
  have e1 : (pdqL cf l).toArray.extract 0 l.length = (pdqL cf l).toArray := Array.extract_eq_self_of_le (by rw [h1]; simp)
  have e2 : l.toArray.extract 0 l.length = l.toArray := Array.extract_eq_self_of_le (by simp)
  rw [e1, e2] at h3
  exact h3
def sortFogF (l : List G3) : Option (List G3) := sortL (pdqL cmpF) l
theorem sortFogSound : Sound Tryz.prog 215 ⟨[.own (.slice T3), .fn 216 []], [], fun x => sortFogF x.1⟩ :=
  sort_soundF (t := Ab.T3) flat_3 (by decide) (pdqL_perm swoF) (fun a w => AnyF.slices_SortFunc_none sortLayFog a 0 _ w) (fun g cap xs w hH hb hl => AnyQ.slices_SortFunc_eq sortLayFog 3 Tryz.isAgg155 Tryz.sizeOf155 Ab.enc3 enc3_len enc3_one cmpF swoF 216 #[] g 0 cap xs.toArray w enters216 (fun _ _ _ _ x y => fog_w x.1 x.2.1 x.2.2.1 y.1 y.2.1 y.2.2.1 _) hH hb (by simpa using hl))
theorem shift_sort {w : World} {v : Value} {x : List G3} {G : Blk} (ho : OTy w (.slice T3) v x G) (hx : x.length < 4611686018427387904) : Calls Tryz.prog 222 #[v, .func (.func 223) #[] #[]] w fun e w' => ∃ FM, e = .returned (.tuple #[]) ∧ Past w w' G ∧ OTy w' (.slice T3) v (pdqL cmpS x) FM ∧ ∀ q, FM q → G q :=
  sort_core (t := Ab.T3) flat_3 (by decide) (pdqL_perm swoS) (fun v => #[v, .func (.func 223) #[] #[]]) (fun a w => AnyF.slices_SortFunc_none sortLayShift a 0 _ w) (fun g cap xs w hH hb hl => AnyQ.slices_SortFunc_eq sortLayShift 3 Tryz.isAgg159 Tryz.sizeOf159 Ab.enc3 enc3_len enc3_one cmpS swoS 223 #[] g 0 cap xs.toArray w enters223 (fun _ _ _ _ x y => shift_w x.1 x.2.1 x.2.2.1 y.1 y.2.1 y.2.2.1 _) hH hb (by simpa using hl)) ho hx
end Go.Proofs.YtkemmodgpafkmaaGreatDoor.Sh
namespace Go.Proofs.YtkemmodgpafkmaaGreatDoor.Sh
open Go Go.Ab Go.Proofs Go.Shelf Go.RowKit Go.Lib
def readV (s : Bytes) : Int × Bool :=
  match atoiAll s with
  | .ok v => if v < 0 ∨ itoa v ≠ s then (0, false) else (v, true)
  | _ => (0, false)
def readF (s : Bytes) : Option (Int × Bool) := if s.length ≤ 281474976710656 then some (readV s) else none
set_option maxHeartbeats 1000000 in
theorem read_bad (s : ByteArray) (w : World) (n : Int) (K : World → Prop) (hA : Calls Tryz.prog 142 #[.string s] w fun e w' => ∃ te pe, e = .returned (.tuple #[.int .i64 n, .iface te pe]) ∧ K w') :
    Calls Tryz.prog 107 #[.string s] w fun e w' => e = .returned (.tuple #[.int .i64 0, .bool false]) ∧ K w' := by
  go_enter Tryz.func107, Tryz.ntmps107
  go_wp2_with (go_at_call 142; refine hA.mono ?_; rintro e w' ⟨te, pe, rfl, hK⟩)
  go_ret2
  exact ⟨rfl, hK⟩
set_option maxHeartbeats 1000000 in
theorem read_neg (s : ByteArray) (w : World) (n : Int) (hn : n < 0) (K : World → Prop) (hA : Calls Tryz.prog 142 #[.string s] w fun e w' => e = .returned (.tuple #[.int .i64 n, .nilIface]) ∧ K w') :
    Calls Tryz.prog 107 #[.string s] w fun e w' => e = .returned (.tuple #[.int .i64 0, .bool false]) ∧ K w' := by
  go_enter Tryz.func107, Tryz.ntmps107
  go_wp2_with (go_at_call 142; refine hA.mono ?_; rintro e w' ⟨rfl, hK⟩)
  go_ret2
  exact ⟨rfl, hK⟩
set_option maxHeartbeats 1000000 in
theorem read_pos (s t : ByteArray) (w : World) (n n' : Int) (b : Bool) (hn : 0 ≤ n) (he : t.toList = s.toList → n' = n ∧ b = true) (hne : t.toList ≠ s.toList → n' = 0 ∧ b = false) (K K2 : World → Prop) (hA : Calls Tryz.prog 142 #[.string s] w fun e w' => e = .returned (.tuple #[.int .i64 n, .nilIface]) ∧ K w') (hI : ∀ W, K W → Calls Tryz.prog 143 #[.int .i64 n] W fun e w' => e = .returned (.string t) ∧ K2 w') :
    Calls Tryz.prog 107 #[.string s] w fun e w' => e = .returned (.tuple #[.int .i64 n', .bool b]) ∧ K2 w' := by
  go_enter Tryz.func107, Tryz.ntmps107
  go_wp2_with (first | (go_at_call 142; refine hA.mono ?_; rintro e w' ⟨rfl, hK⟩) | (go_at_call 143; refine (hI _ hK).mono ?_; rintro e w' ⟨rfl, hK2⟩))
  · rename_i h
    have h : t.toList ≠ s.toList := by
      rcases h with h | h
      · omega
      · simpa using h
    obtain ⟨rfl, rfl⟩ := hne h
    go_ret2
    exact ⟨rfl, hK2⟩
  · rename_i h
    have h : t.toList = s.toList := by simpa using h.2
    obtain ⟨rfl, rfl⟩ := he h
    go_ret2
    exact ⟨rfl, hK2⟩
abbrev Old (w w' : World) : Prop := Past w w' fun _ => False
theorem Old.trans {w w1 w2 : World} (a : Old w w1) (b : Old w1 w2) : Old w w2 :=
  ⟨b.os.trans a.os, b.tape.trans a.tape, b.output.trans a.output, Nat.le_trans a.size b.size, fun q hq h => (b.block q (Nat.lt_of_lt_of_le hq a.size) h).trans (a.block q hq h), fun q hq => (b.fz q (Nat.lt_of_lt_of_le hq a.size)).trans (a.fz q hq)⟩
theorem Old.rfl' (w : World) : Old w w := ⟨rfl, rfl, rfl, Nat.le_refl _, fun _ _ _ => rfl, fun _ _ => rfl⟩
theorem readSound : Sound Tryz.prog 107 ⟨[.val .str], [.val (.int .i64), .val .bool], fun x => readF x⟩ := by
  intro w args x r S Ms hT hS hargs hMs hr
  obtain ⟨v1, r1, rfl, ⟨d1, rfl, k1⟩, rfl, hMs0⟩ := hargs
  obtain ⟨rfl, l1⟩ := k1
  have hr : readF (x : Bytes) = some r := hr
  change Bytes at x
  have hx : valV (Ty.isAgg .str) [Value.string ⟨⟨x⟩⟩] = .string ⟨⟨x⟩⟩ := rfl
  unfold readF at hr
  split at hr
  rotate_left
  · cases hr
  rename_i hlen
  injection hr with hr
  subst hr
  have hsz : (ByteArray.mk ⟨x⟩).size = x.length := by simp [ByteArray.size]
  have hd : (ByteArray.mk ⟨x⟩).data.toList = x := rfl
  obtain ⟨q1, _, o1, ho1, cs1, e1, f1, v1, rfl, hc1, hv1⟩ := hT (1, anIface) (by simp [Tabs.l])
  obtain ⟨q2, _, o2, ho2, cs2, e2, f2, v2, rfl, hc2, hv2⟩ := hT (2, anIface) (by simp [Tabs.l])
  obtain ⟨q5, _, o5, ho5, hi5⟩ := hT (5, holdsRow (Lib.pow10Tab.map fun z => Value.int .u64 z).toArray) (by simp [Tabs.l])
  have w1 : w.cell? ⟨1, 0, none⟩ = some v1 := by unfold World.cell?; rw [ho1]; simpa using hc1
  have w2 : w.cell? ⟨2, 0, none⟩ = some v2 := by unfold World.cell?; rw [ho2]; simpa using hc2
  have fin : ∀ (n : Int) (b : Bool), readV x = (n, b) → (-9223372036854775808 ≤ n ∧ n ≤ 9223372036854775807) → (Calls Tryz.prog 107 #[.string ⟨⟨x⟩⟩] w fun e w' => e = .returned (.tuple #[.int .i64 n, .bool b]) ∧ Old w w') → Calls Tryz.prog 107 #[.string ⟨⟨x⟩⟩] w fun e w' => ∃ vs S' FM FR, e = .returned (retV vs) ∧ Past w w' Ms ∧
      (∀ q, S q → S' q) ∧ (∀ q, S' q → S q ∨ (w.heap.size ≤ q ∧ q < w'.heap.size)) ∧
      OutRel S' w' [.val .str] [.string ⟨⟨x⟩⟩] (RK.tys [.val (.int .i64), .val .bool]) (readV x) FM (fun z => ResRel S' w' [.val (.int .i64), .val .bool] vs z FR) ∧
      (∀ q, FM q → (Ms q ∨ w.heap.size ≤ q) ∧ q < w'.heap.size ∧ ¬ S' q) ∧ (∀ q, FR q → w.heap.size ≤ q ∧ q < w'.heap.size ∧ ¬ S' q ∧ ¬ FM q) := by
    intro n b hv hw hc
    refine Calls.mono hc ?_
    rintro e w' ⟨rfl, p⟩
    refine ⟨[.int .i64 n, .bool b], S, fun _ => False, fun _ => False, rfl, ⟨p.os, p.tape, p.output, p.size, fun q hq _ => p.block q hq (fun h => h), p.fz⟩, fun _ h => h, fun _ h => .inl h, ⟨fun _ h => h, ?_⟩, fun _ h => h.elim, fun _ h => h.elim⟩
    rw [hv]
    exact ⟨_, _, rfl, ⟨[_], rfl, rfl, by simp only [wfI, Lit.wf, Bool.and_eq_true, decide_eq_true_eq]; exact hw⟩, _, [], rfl, ⟨[_], rfl, rfl⟩, rfl, fun _ h => h⟩
  show Calls Tryz.prog 107 #[.string ⟨⟨x⟩⟩] w _
  cases hA : atoiAll x with
  | «syntax» =>
    refine fin 0 false (by simp [readV, hA]) (by omega) ?_
    exact read_bad ⟨⟨x⟩⟩ w 0 (Old w) (Calls.mono (strconv_Atoi_syntax ⟨⟨x⟩⟩ (by omega) hA v1 w w1 hv1) fun e w' ⟨N, he, _, _, hb⟩ => ⟨_, _, he, Past.of_below hb _⟩)
  | range =>
    refine fin 0 false (by simp [readV, hA]) (by omega) ?_
    exact read_bad ⟨⟨x⟩⟩ w _ (Old w) (Calls.mono (strconv_Atoi_range ⟨⟨x⟩⟩ (by omega) hA v2 w w2 hv2) fun e w' ⟨N, he, _, _, hb⟩ => ⟨_, _, he, Past.of_below hb _⟩)
  | ok v =>
    obtain ⟨b1, b2⟩ := atoiAll_bounds hA
    have hAt : Calls Tryz.prog 142 #[.string ⟨⟨x⟩⟩] w fun e w' => e = .returned (.tuple #[.int .i64 v, .nilIface]) ∧ Old w w' := Calls.mono (strconv_Atoi_ok ⟨⟨x⟩⟩ (by omega) v hA w) fun e w' ⟨he, hw⟩ => ⟨he, by
      rcases hw with rfl | ⟨t, rfl⟩
      · exact Old.rfl' _
      · exact Past.of_below (Go.Joins.below_bytesWorld _ _ _ _ (Nat.le_refl _)) _⟩
    by_cases hn : v < 0
    · exact fin 0 false (by simp [readV, hA, hn]) (by omega) (read_neg ⟨⟨x⟩⟩ w v hn (Old w) hAt)
    · have hI : ∀ W, Old w W → Calls Tryz.prog 143 #[.int .i64 v] W fun e w' => e = .returned (.string ⟨(itoa v).toArray⟩) ∧ Old w w' := fun W p => by
        have h5 : W.heap[5]? = some o5 := (p.block 5 q5 fun h => h).trans ho5
        exact Calls.mono (strconv_Itoa v b1 b2 W (tabIs_of_row (by kernel_rfl) h5 hi5)) fun e w' ⟨he, k, os, hw⟩ => ⟨he, Old.trans p (hw ▸ Past.of_grow k os _)⟩
      have e1 : (ByteArray.mk (itoa v).toArray).toList = itoa v := toList_mk (itoa v)
      have e2 : (ByteArray.mk ⟨x⟩).toList = x := toList_mk x
      by_cases he : itoa v = x
      · exact fin v true (by simp [readV, hA, hn, he]) ⟨b1, b2⟩ (read_pos ⟨⟨x⟩⟩ _ w v v true (by omega) (fun _ => ⟨rfl, rfl⟩) (fun h => absurd (e1.trans (he.trans e2.symm)) h) (Old w) (Old w) hAt hI)
      · exact fin 0 false (by simp [readV, hA, he]) (by omega) (read_pos ⟨⟨x⟩⟩ _ w v 0 false (by omega) (fun h => absurd (e1.symm.trans (h.trans e2)) he) (fun _ => ⟨rfl, rfl⟩) (Old w) (Old w) hAt hI)
end Go.Proofs.YtkemmodgpafkmaaGreatDoor.Sh
namespace Go.Proofs.YtkemmodgpafkmaaGreatDoor.Sh
open Go Go.Ab Go.Proofs Go.Shelf Go.RowKit Go.Lib
theorem write_w (B b : Nat) (bs : List Value) (s : ByteArray) (w : World) (h : Lib.IsBuilderF 76 5 B b bs w) (hlen : bs.length + s.size ≤ 140737488355328) (hBw : B ≤ w.heap.size) :
    Calls Tryz.prog 48 #[.pointer (some ⟨b, 0, none⟩), .string s] w fun e w' => e = .returned (.tuple #[.int .i64 s.size, .nilIface]) ∧ (Lib.BuilderAtF 76 5 B b (.pointer (some ⟨b, 0, none⟩)) (bs ++ Lib.strCells s) w' ∧ Below B w w') :=
  Any.Builder_WriteString_f { lays156 with } { Builder_Extra_156 with } B b bs s w h hlen hBw
def accT (nm : Nat → Bytes) : Nat → Bytes
  | 0 => []
  | n + 1 => accT nm n ++ nm n
theorem accT_le (nm : Nat → Bytes) (i : Nat) : ∀ d, (accT nm i).length ≤ (accT nm (i + d)).length
  | 0 => Nat.le_refl _
  | d + 1 => Nat.le_trans (accT_le nm i d) (by show _ ≤ (accT nm (i + d) ++ nm (i + d)).length; rw [List.length_append]; omega)
theorem size_alloc (w : World) (o : Obj) : (w.alloc o).heap.size = w.heap.size + 1 := Array.size_push _
theorem below_one (w : World) (o : Obj) : Below w.heap.size w (w.alloc o) := Below.alloc (Below.refl _ _) (Nat.le_refl _) _
set_option maxHeartbeats 4000000 in
set_option maxRecDepth 100000 in
theorem text_w (w : World) (lb lo n lc pb po pn pc : Nat) (ls : Nat → Nat) (nm : Nat → Bytes) (hn : n ≤ 999999) (hpn : pn ≤ 999999)
    (hl : ∀ i, i < n → w.cell? ⟨lb, lo + i, none⟩ = some (.int .i64 (ls i))) (hk : ∀ i, i < n → ls i < pn) (hp : ∀ i, i < n → w.cell? ⟨pb, po + ls i * 2, none⟩ = some (.string ⟨⟨nm i⟩⟩)) (hlb : lb < w.heap.size) (hpb : pb < w.heap.size) (ht : (accT nm n).length ≤ 140737488355328) :
    Calls Tryz.prog 203 #[.agg #[.slice (some ⟨pb, po, none⟩) pn pc], .slice (some ⟨lb, lo, none⟩) n lc] w fun e w' => e = .returned (.string ⟨⟨accT nm n⟩⟩) ∧ Below w.heap.size w w' := by
  have H0 := Lib.hid hl; have H1 := Lib.hid hk; have H2 := Lib.hid hp
  clear hl hk hp
  go_enter Tryz.func203, Tryz.ntmps203
  go_wp2_with fail
  go_loopg [10] n (fun gg s10 wr => ∃ (i : Nat), s10 = .int .i64 i ∧ i ≤ n ∧ n - i ≤ gg ∧ Hid (Lib.IsBuilderF 76 5 (w.heap.size + 1) (w.heap.size + 1) (byteCells (accT nm i)) wr) ∧ Hid (Below (w.heap.size + 1) (w.alloc (.cells #[.slice (some ⟨pb, po, none⟩) pn pc] 38)) wr))
  case atStart =>
    refine ⟨0, rfl, Nat.zero_le n, Nat.le_refl _, Lib.hid (.inl ⟨Nat.le_refl _, .slice none 0 0, ?_, ⟨rfl, .inl ⟨rfl, rfl⟩⟩, by simp [Value.ownBlock]⟩), Lib.hid (Below.alloc (Below.refl _ _) (Nat.le_of_eq (size_alloc _ _).symm) _)⟩
    show ((w.heap.push _).push _)[w.heap.size + 1]? = _
    rw [show w.heap.size + 1 = (w.heap.push (.cells #[.slice (some ⟨pb, po, none⟩) pn pc] 38)).size by simp]
    exact Array.getElem?_push_size
  case round =>
    obtain ⟨i, rfl, hin, hgg, hB, hL⟩ := hrel
    have hsz : w.heap.size + 1 ≤ wr.heap.size := by have := hL.out.size; rwa [size_alloc] at this
    have old : ∀ q, q < w.heap.size → wr.heap[q]? = w.heap[q]? := fun q hq => (hL.out.block q (by omega)).trans ((below_one w _).block q hq)
    by_cases hlt : i < n
    · have hltz : (i : Int) < (n : Int) := by omega
      have c0 := (World.cell?_of_block (a := ⟨lb, lo + i, none⟩) (old lb hlb)).trans (H0.out i hlt)
      have c1 := (World.cell?_of_block (a := ⟨pb, po + ls i * 2, none⟩) (old pb hpb)).trans (H2.out i hlt)
      have cb : wr.cell? ⟨w.heap.size, 0, none⟩ = some (.slice (some ⟨pb, po, none⟩) pn pc) := by
        have : wr.heap[w.heap.size]? = some (.cells #[.slice (some ⟨pb, po, none⟩) pn pc] 38 (0, 0)) := (hL.out.block _ (by omega)).trans Array.getElem?_push_size
        unfold World.cell?; rw [this]; rfl
      have hkp := H1.out i hlt
      have HC := Lib.hid (write_w (w.heap.size + 1) (w.heap.size + 1) (byteCells (accT nm i)) ⟨⟨nm i⟩⟩ wr hB.out (by have := accT_le nm (i + 1) (n - (i + 1)); rw [show i + 1 + (n - (i + 1)) = n by omega] at this; have h2 : (accT nm (i + 1)).length = (accT nm i).length + (nm i).length := List.length_append; have h3 : (ByteArray.mk ⟨nm i⟩).size = (nm i).length := rfl; rw [byteCells_length]; omega) hsz)
      generalize hv : ls i = v at c0 c1 hkp
      generalize hx : nm i = x at c1 HC
      have HX := Lib.hid hx
      clear hx hv
      go_wp2_with (go_at_call 48; refine HC.out.mono ?_; rintro e w' ⟨rfl, hb⟩)
      have HB := Lib.hid hb
      clear hb HC
      go_roundg (n - (i + 1))
      case measure => omega
      case rel => exact ⟨i + 1, by go_num, by omega, Nat.le_refl _, Lib.hid (.inr (by have := HB.out.1; rw [strCells_eq, ← byteCells_append] at this; rw [show accT nm (i + 1) = accT nm i ++ x from HX.out ▸ rfl]; exact this)), Lib.hid (hL.out.trans HB.out.2)⟩
    · obtain rfl : i = n := by omega
      have hltz : ¬ (i : Int) < (i : Int) := by omega
      have HC := Lib.hid (Builder_String_any_f (w.heap.size + 1) (w.heap.size + 1) (accT nm i) wr hB.out hsz)
      go_wp2_with (go_at_call 49; refine HC.out.mono ?_; rintro e w' ⟨rfl, hb⟩)
      go_ret
      exact ⟨rfl, (below_one w _).trans ((hL.out.trans hb.2).mono (Nat.le_succ _))⟩
set_option maxHeartbeats 4000000 in
set_option maxRecDepth 100000 in
theorem text_nil (w : World) (pv : Value) (p : Option Addr) (c : Nat) :
    Calls Tryz.prog 203 #[.agg #[pv], .slice p 0 c] w fun e w' => e = .returned (.string ⟨⟨[]⟩⟩) ∧ Below w.heap.size w w' := by
  have hB : Lib.IsBuilderF 76 5 (w.heap.size + 1) (w.heap.size + 1) (byteCells []) ((w.alloc (.cells #[pv] 38)).alloc (.cells #[.pointer none, .slice none 0 0] 76)) := by
    refine .inl ⟨Nat.le_refl _, .slice none 0 0, ?_, ⟨rfl, .inl ⟨rfl, rfl⟩⟩, by simp [Value.ownBlock]⟩
    show ((w.heap.push _).push _)[w.heap.size + 1]? = _
    rw [show w.heap.size + 1 = (w.heap.push (.cells #[pv] 38)).size by simp]
    exact Array.getElem?_push_size
  have HC := Lib.hid (Builder_String_any_f (w.heap.size + 1) (w.heap.size + 1) [] _ hB (by rw [size_alloc, size_alloc]; omega))
  clear hB
  go_enter Tryz.func203, Tryz.ntmps203
  go_wp2_with fail
  refine wp_loop_rounds 1 ?_
  rw [rounds_succ]
  go_wp2_with (go_at_call 49; refine HC.out.mono ?_; rintro e w' ⟨rfl, hb⟩)
  go_ret
  exact ⟨rfl, ((below_one w _).trans ((below_one (w.alloc _) _).mono (by rw [size_alloc]; omega))).trans (hb.2.mono (Nat.le_succ _))⟩
abbrev TPhr : Ty := .pair .str (.pair (.slice (.int .i64)) .unit)
abbrev GPhr : Type := Bytes × List Int × Unit
def phr (ps : List GPhr) (i : Int) : Bytes := ((ps[i.toNat]?).map (·.1)).getD []
def textV (ps : List GPhr) (l : List Int) : Bytes := l.flatMap (phr ps)
def textF (b : List GPhr × Unit) (l : List Int) : Option Bytes :=
  if l.length ≤ 999999 ∧ b.1.length ≤ 999999 ∧ (∀ i ∈ l, 0 ≤ i ∧ i < b.1.length) ∧ (textV b.1 l).length ≤ 140737488355328 then some (textV b.1 l) else none
theorem accT_range (nm : Nat → Bytes) : ∀ n, accT nm n = (List.range n).flatMap nm
  | 0 => rfl
  | n + 1 => by rw [List.range_succ, List.flatMap_append, ← accT_range nm n]; simp [accT]
theorem accT_text (ps : List GPhr) (l : List Int) : accT (fun i => phr ps (l[i]?.getD 0)) l.length = textV ps l := by
  rw [accT_range]
  have e : (List.range l.length).map (fun i => l[i]?.getD 0) = l := by
    apply List.ext_getElem?
    intro i
    by_cases h : i < l.length <;> simp [h]
  unfold textV
  conv => rhs; rw [← e]
  rw [List.flatMap_map]
theorem textSound : Sound Tryz.prog 203 ⟨[.val (.pair (.slice TPhr) .unit), .val (.slice (.int .i64))], [.val .str], fun x => textF x.1 x.2⟩ := by
  intro w args x r S Ms hT hS hargs hMs hr
  obtain ⟨v1, r1, rfl, ⟨d1, rfl, k1⟩, v2, r2, rfl, ⟨d2, rfl, k2⟩, rfl, hMs0⟩ := hargs
  obtain ⟨⟨ps, u⟩, l⟩ := x
  cases u
  change List GPhr at ps
  change List Int at l
  have hr : textF (ps, ()) l = some r := hr
  unfold textF at hr
  split at hr
  rotate_left
  · cases hr
  rename_i hc
  obtain ⟨c1, c2, c3, c4⟩ := hc
  injection hr with hr
  subst hr
  have fin : ∀ args : Array Value, (Calls Tryz.prog 203 args w fun e w' => e = .returned (.string ⟨⟨textV ps l⟩⟩) ∧ Below w.heap.size w w') → Calls Tryz.prog 203 args w fun e w' => ∃ (vs : List Value) (S' FM FR : Blk), e = .returned (retV vs) ∧ Past w w' Ms ∧
      (∀ q, S q → S' q) ∧ (∀ q, S' q → S q ∨ (w.heap.size ≤ q ∧ q < w'.heap.size)) ∧
      ((∀ q, ¬ FM q) ∧ ResRel S' w' [.val .str] vs (textV ps l) FR) ∧ (∀ q, FM q → (Ms q ∨ w.heap.size ≤ q) ∧ q < w'.heap.size ∧ ¬ S' q) ∧ (∀ q, FR q → w.heap.size ≤ q ∧ q < w'.heap.size ∧ ¬ S' q ∧ ¬ FM q) := fun args hc => by
    refine Calls.mono hc ?_
    rintro e w' ⟨rfl, hb⟩
    exact str_post hS (Past.of_below hb Ms) (y := textV ps l) (Nat.le_trans c4 (by decide))
  obtain ⟨e1, e2, rfl, h1, h2⟩ := k1
  have h2 : e2 = [] := h2
  subst h2
  obtain ⟨hm1, h1⟩ := h1
  obtain ⟨hm2, h3⟩ := k2
  by_cases hl : l = []
  · subst hl
    have : textV ps [] = [] := rfl
    rw [this] at fin
    rcases h1 with ⟨rfl, hp⟩ | ⟨a, cap, rfl, _⟩ <;> rcases h3 with ⟨rfl, _⟩ | ⟨a2, cap2, rfl, _⟩ <;> exact fin _ (text_nil w _ _ _)
  · have hp : ps ≠ [] := by
      rintro rfl
      obtain ⟨i, hi⟩ := List.exists_mem_of_ne_nil l hl
      have := c3 i hi
      simp at this
      omega
    obtain ⟨a, cap, rfl, hcap, hb, he⟩ := h1.resolve_left fun h => hp h.2
    obtain ⟨a2, cap2, rfl, hcap2, hb2, he2⟩ := h3.resolve_left fun h => hl h.2
    obtain ⟨s1, _, s3⟩ := hb.resolve_left hp
    obtain ⟨t1, _, t3⟩ := hb2.resolve_left hl
    obtain ⟨pb, po, sp⟩ := a
    obtain ⟨lb, lo, sl⟩ := a2
    cases s1
    cases t1
    have hk : ∀ i, i < l.length → 0 ≤ l[i]?.getD 0 ∧ l[i]?.getD 0 < ps.length := fun i hi => by
      have := c3 l[i] (List.getElem_mem hi)
      simpa [hi] using this
    refine fin _ ?_
    have := text_w w lb lo l.length cap2 pb po ps.length cap (fun i => (l[i]?.getD 0).toNat) (fun i => phr ps (l[i]?.getD 0)) c1 c2 (fun i hi => ?_) (fun i hi => by have := hk i hi; omega) (fun i hi => ?_) t3 s3 (by rw [accT_text]; exact c4)
    · rw [accT_text] at this; exact this
    · obtain ⟨ds, z1, z2, z3, z4⟩ := he2 i (l[i]?.getD 0) (by have hg : l[i]? = some l[i] := List.getElem?_eq_getElem hi; rw [hg]; exact hg)
      have := z2 0 (.int .i64 (l[i]?.getD 0)) (by rw [z3]; rfl)
      have hk := hk i hi
      rw [Int.toNat_of_nonneg hk.1]
      simpa [Ty.size] using this
    · have hk := hk i hi
      have hlt : (l[i]?.getD 0).toNat < ps.length := by omega
      obtain ⟨ds, z1, z2, z3⟩ := he (l[i]?.getD 0).toNat ps[(l[i]?.getD 0).toNat] (List.getElem?_eq_getElem hlt)
      obtain ⟨d1, d2, rfl, ⟨rfl, _⟩, _⟩ := z3
      have := z2 0 _ rfl
      simpa [Ty.size, phr, hlt] using this
end Go.Proofs.YtkemmodgpafkmaaGreatDoor.Sh
