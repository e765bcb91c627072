/-
  The functions that the statement reaches, as plain functions; each with its contract: the first part.
-/
import Derived.Test.YtkemmodgpafkmaaGreatDoorXLift
import Derived.Test.YtkemmodgpafkmaaGreatDoorChecked
import Derived.KernelRfl
import Derived.Test.YtkemmodgpafkmaaGreatDoorSBase
namespace Go.Proofs.YtkemmodgpafkmaaGreatDoor.Sh
open Go Go.Ab Go.Proofs
set_option maxRecDepth 100000
noncomputable section
abbrev TGTower : Ty := .pair (.int .i64) (.pair (.int .i64) (.pair (.int .i64) .unit))
abbrev GTower : Type := Int × Int × Int × Unit
abbrev TGPhrase : Ty := .pair .str (.pair (.slice (.int .i64)) .unit)
abbrev GPhrase : Type := Bytes × (List Int) × Unit
abbrev TGSecret : Ty := .pair (.slice (.int .i64)) (.pair (.slice (.int .i64)) .unit)
abbrev GSecret : Type := (List Int) × (List Int) × Unit
abbrev TGKeyBook : Ty := .pair (.int .i64) (.pair (.int .i64) (.pair (.slice (.int .i64)) .unit))
abbrev GKeyBook : Type := Int × Int × (List Int) × Unit
abbrev TGTicket : Ty := .pair (.int .i64) (.pair (.int .i64) (.pair (.slice (.int .i64)) (.pair (.int .i64) .unit)))
abbrev GTicket : Type := Int × Int × (List Int) × Int × Unit
abbrev TGBook : Ty := .pair (.slice TGPhrase) .unit
abbrev GBook : Type := (List GPhrase) × Unit
abbrev TGNet : Ty := .pair (.slice TGTower) (.pair (.slice TGTower) .unit)
abbrev GNet : Type := (List GTower) × (List GTower) × Unit
abbrev TGscriptState : Ty := .pair TGNet (.pair (.slice TGTower) (.pair TGBook (.pair TGKeyBook (.pair (.slice TGTicket) (.pair (.slice TGTower) (.pair (.slice .str) .unit))))))
abbrev GscriptState : Type := GNet × (List GTower) × GBook × GKeyBook × (List GTicket) × (List GTower) × (List Bytes) × Unit
abbrev TGscriptStateR : Ty := .pair TGNet (.pair (.slice TGTower) (.pair TGBook (.pair TGKeyBook (.pair (.slice TGTicket) (.pair (.slice TGTower) (.pair .raw .unit))))))
abbrev GscriptStateR : Type := GNet × (List GTower) × GBook × GKeyBook × (List GTicket) × (List GTower) × Value × Unit
abbrev TGscriptStateK : Ty := .pair TGNet (.pair (.slice TGTower) (.pair TGBook (.pair TGKeyBook (.pair (.slice TGTicket) (.pair (.slice TGTower) .unit)))))
abbrev GscriptStateK : Type := GNet × (List GTower) × GBook × GKeyBook × (List GTicket) × (List GTower) × Unit
abbrev TGcsState : Ty := .pair TGNet (.pair (.slice TGTower) (.pair TGBook (.pair TGKeyBook (.pair (.slice TGTicket) (.pair (.slice TGTower) (.pair (.slice (.int .i64)) (.pair (.slice (.int .i64)) (.pair (.int .i64) .unit))))))))
abbrev GcsState : Type := GNet × (List GTower) × GBook × GKeyBook × (List GTicket) × (List GTower) × (List Int) × (List Int) × Int × Unit
theorem mixedOk : Tryz.prog.follows .mixedOrders = true := by kernel_rfl
def w_accept : Bytes := [97, 99, 99, 101, 112, 116]
def w_arrived : Bytes := [97, 114, 114, 105, 118, 101, 100]
def w_code : Bytes := [99, 111, 100, 101]
def w_duty : Bytes := [100, 117, 116, 121]
def w_fail : Bytes := [102, 97, 105, 108]
def w_first : Bytes := [102, 105, 114, 115, 116]
def w_fog : Bytes := [102, 111, 103]
def w_hide : Bytes := [104, 105, 100, 101]
def w_link : Bytes := [108, 105, 110, 107]
def w_none : Bytes := [110, 111, 110, 101]
def w_phrase : Bytes := [112, 104, 114, 97, 115, 101]
def w_read : Bytes := [114, 101, 97, 100]
def w_shift : Bytes := [115, 104, 105, 102, 116]
def w_tower : Bytes := [116, 111, 119, 101, 114]
def w_towers : Bytes := [116, 111, 119, 101, 114, 115]
def w_way : Bytes := [119, 97, 121]
def w_what : Bytes := [119, 104, 97, 116]
def w_where : Bytes := [119, 104, 101, 114, 101]
def i_within (p_n : Int) (p_low : Int) (p_high : Int) : Option (Bool) :=
 (bif (decide (p_low ≤ p_n)) then
 some (decide (p_n ≤ p_high))
 else
 some false).bind fun c1 =>
 some c1
def C67 : FnSpec := { ps := [.val (.int .i64), .val (.int .i64), .val (.int .i64)], rs := [.val .bool], fn := fun x => i_within x.1 x.2.1 x.2.2 }
def E67 : Env := { T := [], G := [], ro := [], loops := [], joins := [] }
theorem S67 : Sound Tryz.prog 67 C67 := fun_sound (E := E67) ⟨good_T (by kernel_rfl), good_nil, mixedOk, ins_nil⟩ Tryz.func67 rfl fun _ => by kernel_rfl
def C105 : FnSpec := { ps := [.val .str, .val .str], rs := [.own (.slice .str)], fn := fun x => splitF x.1 x.2 }
theorem S105 : Sound Tryz.prog 105 C105 := splitSound
def i_isSmall (p_s : Bytes) : Option (Bool) :=
 (loopE (fun (st2 : Int) => (
 bif (decide (st2 < (p_s.length : Int))) then
 (idx p_s st2).bind fun b3 =>
 (bif (decide ((b3.toNat : Int) < 97)) then
 some true
 else
 (idx p_s st2).bind fun b4 =>
 some (decide (122 < (b4.toNat : Int)))).bind fun c5 =>
 bif c5 then
 some (.inr (.inr false))
 else
 some (.inl (w64 (st2 + 1)))
 else
 some (.inr (.inl ())) : Option ((Int) ⊕ (Unit ⊕ Bool)))) 0).bind fun o6 =>
 match o6 with
 | .inl _ =>
  some true
 | .inr y8 =>
  some y8
def C116 : FnSpec := { ps := [.val .str], rs := [.val .bool], fn := fun x => i_isSmall x }
def E116 : Env := { T := [(9, .str)], G := [], ro := [], loops := [(2, { keep := [0], live := [.tv 3 (.int .i64)], outs := [(.exit 0, []), (.ret, [.tv 2 .bool])] })], joins := [] }
theorem S116 : Sound Tryz.prog 116 C116 := fun_sound (E := E116) ⟨good_T (by kernel_rfl), good_nil, mixedOk, ins_nil⟩ Tryz.func116 rfl fun _ => by kernel_rfl
def i_isScriptWord (p_word : Bytes) : Option (Bool) :=
 (bif (decide (1 ≤ (p_word.length : Int))) then
 some (decide ((p_word.length : Int) ≤ 40))
 else
 some false).bind fun c1 =>
 (bif c1 then
 (i_isSmall p_word).bind fun r2 =>
 some r2
 else
 some false).bind fun c3 =>
 some c3
def C106 : FnSpec := { ps := [.val .str], rs := [.val .bool], fn := fun x => i_isScriptWord x }
def E106 : Env := { T := [(9, .str)], G := [(116, C116)], ro := [], loops := [], joins := [] }
theorem S106 : Sound Tryz.prog 106 C106 := fun_sound (E := E106) ⟨good_T (by kernel_rfl), (good_cons S116 ⟨_, Tryz.func116, by kernel_rfl, by kernel_rfl⟩ good_nil), mixedOk, ins_nil⟩ Tryz.func106 rfl fun _ => by kernel_rfl
def C107 : FnSpec := { ps := [.val .str], rs := [.val (.int .i64), .val .bool], fn := fun x => readF x }
theorem S107 : Sound Tryz.prog 107 C107 := readSound
def i_leastNumbers (p_name : Bytes) : Option (Int) :=
 bif (decide (p_name = w_towers)) then
 bif (decide (p_name = w_towers)) then
 some 0
 else
 bif (decide (p_name = w_phrase)) then
 bif (decide (p_name = w_phrase)) then
 some 1
 else
 bif (decide (p_name = w_accept)) then
 bif (decide (p_name = w_accept)) then
 some 2
 else
 bif (decide (p_name = w_tower)) then
 bif (decide (p_name = w_tower)) then
 some 3
 else
 some 1073741824
 else
 bif (decide (p_name = w_link)) then
 bif (decide (p_name = w_link)) then
 some 3
 else
 some 1073741824
 else
 bif (decide (p_name = w_fog)) then
 bif (decide (p_name = w_fog)) then
 some 3
 else
 some 1073741824
 else
 bif (decide (p_name = w_first)) then
 bif (decide (p_name = w_first)) then
 some 3
 else
 some 1073741824
 else
 bif (decide (p_name = w_way)) then
 bif (decide (p_name = w_way)) then
 some 3
 else
 some 1073741824
 else
 bif (decide (p_name = w_shift)) then
 some 3
 else
 some 1073741824
 else
 bif (decide (p_name = w_arrived)) then
 some 2
 else
 bif (decide (p_name = w_tower)) then
 bif (decide (p_name = w_tower)) then
 some 3
 else
 some 1073741824
 else
 bif (decide (p_name = w_link)) then
 bif (decide (p_name = w_link)) then
 some 3
 else
 some 1073741824
 else
 bif (decide (p_name = w_fog)) then
 bif (decide (p_name = w_fog)) then
 some 3
 else
 some 1073741824
 else
 bif (decide (p_name = w_first)) then
 bif (decide (p_name = w_first)) then
 some 3
 else
 some 1073741824
 else
 bif (decide (p_name = w_way)) then
 bif (decide (p_name = w_way)) then
 some 3
 else
 some 1073741824
 else
 bif (decide (p_name = w_shift)) then
 some 3
 else
 some 1073741824
 else
 bif (decide (p_name = w_read)) then
 bif (decide (p_name = w_read)) then
 some 1
 else
 bif (decide (p_name = w_accept)) then
 bif (decide (p_name = w_accept)) then
 some 2
 else
 bif (decide (p_name = w_tower)) then
 bif (decide (p_name = w_tower)) then
 some 3
 else
 some 1073741824
 else
 bif (decide (p_name = w_link)) then
 bif (decide (p_name = w_link)) then
 some 3
 else
 some 1073741824
 else
 bif (decide (p_name = w_fog)) then
 bif (decide (p_name = w_fog)) then
 some 3
 else
 some 1073741824
 else
 bif (decide (p_name = w_first)) then
 bif (decide (p_name = w_first)) then
 some 3
 else
 some 1073741824
 else
 bif (decide (p_name = w_way)) then
 bif (decide (p_name = w_way)) then
 some 3
 else
 some 1073741824
 else
 bif (decide (p_name = w_shift)) then
 some 3
 else
 some 1073741824
 else
 bif (decide (p_name = w_arrived)) then
 some 2
 else
 bif (decide (p_name = w_tower)) then
 bif (decide (p_name = w_tower)) then
 some 3
 else
 some 1073741824
 else
 bif (decide (p_name = w_link)) then
 bif (decide (p_name = w_link)) then
 some 3
 else
 some 1073741824
 else
 bif (decide (p_name = w_fog)) then
 bif (decide (p_name = w_fog)) then
 some 3
 else
 some 1073741824
 else
 bif (decide (p_name = w_first)) then
 bif (decide (p_name = w_first)) then
 some 3
 else
 some 1073741824
 else
 bif (decide (p_name = w_way)) then
 bif (decide (p_name = w_way)) then
 some 3
 else
 some 1073741824
 else
 bif (decide (p_name = w_shift)) then
 some 3
 else
 some 1073741824
 else
 bif (decide (p_name = w_hide)) then
 bif (decide (p_name = w_hide)) then
 some 1
 else
 bif (decide (p_name = w_accept)) then
 bif (decide (p_name = w_accept)) then
 some 2
 else
 bif (decide (p_name = w_tower)) then
 bif (decide (p_name = w_tower)) then
 some 3
 else
 some 1073741824
 else
 bif (decide (p_name = w_link)) then
 bif (decide (p_name = w_link)) then
 some 3
 else
 some 1073741824
 else
 bif (decide (p_name = w_fog)) then
 bif (decide (p_name = w_fog)) then
 some 3
 else
 some 1073741824
 else
 bif (decide (p_name = w_first)) then
 bif (decide (p_name = w_first)) then
 some 3
 else
 some 1073741824
 else
 bif (decide (p_name = w_way)) then
 bif (decide (p_name = w_way)) then
 some 3
 else
 some 1073741824
 else
 bif (decide (p_name = w_shift)) then
 some 3
 else
 some 1073741824
 else
 bif (decide (p_name = w_arrived)) then
 some 2
 else
 bif (decide (p_name = w_tower)) then
 bif (decide (p_name = w_tower)) then
 some 3
 else
 some 1073741824
 else
 bif (decide (p_name = w_link)) then
 bif (decide (p_name = w_link)) then
 some 3
 else
 some 1073741824
 else
 bif (decide (p_name = w_fog)) then
 bif (decide (p_name = w_fog)) then
 some 3
 else
 some 1073741824
 else
 bif (decide (p_name = w_first)) then
 bif (decide (p_name = w_first)) then
 some 3
 else
 some 1073741824
 else
 bif (decide (p_name = w_way)) then
 bif (decide (p_name = w_way)) then
 some 3
 else
 some 1073741824
 else
 bif (decide (p_name = w_shift)) then
 some 3
 else
 some 1073741824
 else
 bif (decide (p_name = w_fail)) then
 bif (decide (p_name = w_fail)) then
 some 1
 else
 bif (decide (p_name = w_accept)) then
 bif (decide (p_name = w_accept)) then
 some 2
 else
 bif (decide (p_name = w_tower)) then
 bif (decide (p_name = w_tower)) then
 some 3
 else
 some 1073741824
 else
 bif (decide (p_name = w_link)) then
 bif (decide (p_name = w_link)) then
 some 3
 else
 some 1073741824
 else
 bif (decide (p_name = w_fog)) then
 bif (decide (p_name = w_fog)) then
 some 3
 else
 some 1073741824
 else
 bif (decide (p_name = w_first)) then
 bif (decide (p_name = w_first)) then
 some 3
 else
 some 1073741824
 else
 bif (decide (p_name = w_way)) then
 bif (decide (p_name = w_way)) then
 some 3
 else
 some 1073741824
 else
 bif (decide (p_name = w_shift)) then
 some 3
 else
 some 1073741824
 else
 bif (decide (p_name = w_arrived)) then
 some 2
 else
 bif (decide (p_name = w_tower)) then
 bif (decide (p_name = w_tower)) then
 some 3
 else
 some 1073741824
 else
 bif (decide (p_name = w_link)) then
 bif (decide (p_name = w_link)) then
 some 3
 else
 some 1073741824
 else
 bif (decide (p_name = w_fog)) then
 bif (decide (p_name = w_fog)) then
 some 3
 else
 some 1073741824
 else
 bif (decide (p_name = w_first)) then
 bif (decide (p_name = w_first)) then
 some 3
 else
 some 1073741824
 else
 bif (decide (p_name = w_way)) then
 bif (decide (p_name = w_way)) then
 some 3
 else
 some 1073741824
 else
 bif (decide (p_name = w_shift)) then
 some 3
 else
 some 1073741824
 else
 bif (decide (p_name = w_where)) then
 bif (decide (p_name = w_where)) then
 some 1
 else
 bif (decide (p_name = w_accept)) then
 bif (decide (p_name = w_accept)) then
 some 2
 else
 bif (decide (p_name = w_tower)) then
 bif (decide (p_name = w_tower)) then
 some 3
 else
 some 1073741824
 else
 bif (decide (p_name = w_link)) then
 bif (decide (p_name = w_link)) then
 some 3
 else
 some 1073741824
 else
 bif (decide (p_name = w_fog)) then
 bif (decide (p_name = w_fog)) then
 some 3
 else
 some 1073741824
 else
 bif (decide (p_name = w_first)) then
 bif (decide (p_name = w_first)) then
 some 3
 else
 some 1073741824
 else
 bif (decide (p_name = w_way)) then
 bif (decide (p_name = w_way)) then
 some 3
 else
 some 1073741824
 else
 bif (decide (p_name = w_shift)) then
 some 3
 else
 some 1073741824
 else
 bif (decide (p_name = w_arrived)) then
 some 2
 else
 bif (decide (p_name = w_tower)) then
 bif (decide (p_name = w_tower)) then
 some 3
 else
 some 1073741824
 else
 bif (decide (p_name = w_link)) then
 bif (decide (p_name = w_link)) then
 some 3
 else
 some 1073741824
 else
 bif (decide (p_name = w_fog)) then
 bif (decide (p_name = w_fog)) then
 some 3
 else
 some 1073741824
 else
 bif (decide (p_name = w_first)) then
 bif (decide (p_name = w_first)) then
 some 3
 else
 some 1073741824
 else
 bif (decide (p_name = w_way)) then
 bif (decide (p_name = w_way)) then
 some 3
 else
 some 1073741824
 else
 bif (decide (p_name = w_shift)) then
 some 3
 else
 some 1073741824
 else
 bif (decide (p_name = w_duty)) then
 some 1
 else
 bif (decide (p_name = w_accept)) then
 bif (decide (p_name = w_accept)) then
 some 2
 else
 bif (decide (p_name = w_tower)) then
 bif (decide (p_name = w_tower)) then
 some 3
 else
 some 1073741824
 else
 bif (decide (p_name = w_link)) then
 bif (decide (p_name = w_link)) then
 some 3
 else
 some 1073741824
 else
 bif (decide (p_name = w_fog)) then
 bif (decide (p_name = w_fog)) then
 some 3
 else
 some 1073741824
 else
 bif (decide (p_name = w_first)) then
 bif (decide (p_name = w_first)) then
 some 3
 else
 some 1073741824
 else
 bif (decide (p_name = w_way)) then
 bif (decide (p_name = w_way)) then
 some 3
 else
 some 1073741824
 else
 bif (decide (p_name = w_shift)) then
 some 3
 else
 some 1073741824
 else
 bif (decide (p_name = w_arrived)) then
 some 2
 else
 bif (decide (p_name = w_tower)) then
 bif (decide (p_name = w_tower)) then
 some 3
 else
 some 1073741824
 else
 bif (decide (p_name = w_link)) then
 bif (decide (p_name = w_link)) then
 some 3
 else
 some 1073741824
 else
 bif (decide (p_name = w_fog)) then
 bif (decide (p_name = w_fog)) then
 some 3
 else
 some 1073741824
 else
 bif (decide (p_name = w_first)) then
 bif (decide (p_name = w_first)) then
 some 3
 else
 some 1073741824
 else
 bif (decide (p_name = w_way)) then
 bif (decide (p_name = w_way)) then
 some 3
 else
 some 1073741824
 else
 bif (decide (p_name = w_shift)) then
 some 3
 else
 some 1073741824
 else
 bif (decide (p_name = w_code)) then
 some 0
 else
 bif (decide (p_name = w_phrase)) then
 bif (decide (p_name = w_phrase)) then
 some 1
 else
 bif (decide (p_name = w_accept)) then
 bif (decide (p_name = w_accept)) then
 some 2
 else
 bif (decide (p_name = w_tower)) then
 bif (decide (p_name = w_tower)) then
 some 3
 else
 some 1073741824
 else
 bif (decide (p_name = w_link)) then
 bif (decide (p_name = w_link)) then
 some 3
 else
 some 1073741824
 else
 bif (decide (p_name = w_fog)) then
 bif (decide (p_name = w_fog)) then
 some 3
 else
 some 1073741824
 else
 bif (decide (p_name = w_first)) then
 bif (decide (p_name = w_first)) then
 some 3
 else
 some 1073741824
 else
 bif (decide (p_name = w_way)) then
 bif (decide (p_name = w_way)) then
 some 3
 else
 some 1073741824
 else
 bif (decide (p_name = w_shift)) then
 some 3
 else
 some 1073741824
 else
 bif (decide (p_name = w_arrived)) then
 some 2
 else
 bif (decide (p_name = w_tower)) then
 bif (decide (p_name = w_tower)) then
 some 3
 else
 some 1073741824
 else
 bif (decide (p_name = w_link)) then
 bif (decide (p_name = w_link)) then
 some 3
 else
 some 1073741824
 else
 bif (decide (p_name = w_fog)) then
 bif (decide (p_name = w_fog)) then
 some 3
 else
 some 1073741824
 else
 bif (decide (p_name = w_first)) then
 bif (decide (p_name = w_first)) then
 some 3
 else
 some 1073741824
 else
 bif (decide (p_name = w_way)) then
 bif (decide (p_name = w_way)) then
 some 3
 else
 some 1073741824
 else
 bif (decide (p_name = w_shift)) then
 some 3
 else
 some 1073741824
 else
 bif (decide (p_name = w_read)) then
 bif (decide (p_name = w_read)) then
 some 1
 else
 bif (decide (p_name = w_accept)) then
 bif (decide (p_name = w_accept)) then
 some 2
 else
 bif (decide (p_name = w_tower)) then
 bif (decide (p_name = w_tower)) then
 some 3
 else
 some 1073741824
 else
 bif (decide (p_name = w_link)) then
 bif (decide (p_name = w_link)) then
 some 3
 else
 some 1073741824
 else
 bif (decide (p_name = w_fog)) then
 bif (decide (p_name = w_fog)) then
 some 3
 else
 some 1073741824
 else
 bif (decide (p_name = w_first)) then
 bif (decide (p_name = w_first)) then
 some 3
 else
 some 1073741824
 else
 bif (decide (p_name = w_way)) then
 bif (decide (p_name = w_way)) then
 some 3
 else
 some 1073741824
 else
 bif (decide (p_name = w_shift)) then
 some 3
 else
 some 1073741824
 else
 bif (decide (p_name = w_arrived)) then
 some 2
 else
 bif (decide (p_name = w_tower)) then
 bif (decide (p_name = w_tower)) then
 some 3
 else
 some 1073741824
 else
 bif (decide (p_name = w_link)) then
 bif (decide (p_name = w_link)) then
 some 3
 else
 some 1073741824
 else
 bif (decide (p_name = w_fog)) then
 bif (decide (p_name = w_fog)) then
 some 3
 else
 some 1073741824
 else
 bif (decide (p_name = w_first)) then
 bif (decide (p_name = w_first)) then
 some 3
 else
 some 1073741824
 else
 bif (decide (p_name = w_way)) then
 bif (decide (p_name = w_way)) then
 some 3
 else
 some 1073741824
 else
 bif (decide (p_name = w_shift)) then
 some 3
 else
 some 1073741824
 else
 bif (decide (p_name = w_hide)) then
 bif (decide (p_name = w_hide)) then
 some 1
 else
 bif (decide (p_name = w_accept)) then
 bif (decide (p_name = w_accept)) then
 some 2
 else
 bif (decide (p_name = w_tower)) then
 bif (decide (p_name = w_tower)) then
 some 3
 else
 some 1073741824
 else
 bif (decide (p_name = w_link)) then
 bif (decide (p_name = w_link)) then
 some 3
 else
 some 1073741824
 else
 bif (decide (p_name = w_fog)) then
 bif (decide (p_name = w_fog)) then
 some 3
 else
 some 1073741824
 else
 bif (decide (p_name = w_first)) then
 bif (decide (p_name = w_first)) then
 some 3
 else
 some 1073741824
 else
 bif (decide (p_name = w_way)) then
 bif (decide (p_name = w_way)) then
 some 3
 else
 some 1073741824
 else
 bif (decide (p_name = w_shift)) then
 some 3
 else
 some 1073741824
 else
 bif (decide (p_name = w_arrived)) then
 some 2
 else
 bif (decide (p_name = w_tower)) then
 bif (decide (p_name = w_tower)) then
 some 3
 else
 some 1073741824
 else
 bif (decide (p_name = w_link)) then
 bif (decide (p_name = w_link)) then
 some 3
 else
 some 1073741824
 else
 bif (decide (p_name = w_fog)) then
 bif (decide (p_name = w_fog)) then
 some 3
 else
 some 1073741824
 else
 bif (decide (p_name = w_first)) then
 bif (decide (p_name = w_first)) then
 some 3
 else
 some 1073741824
 else
 bif (decide (p_name = w_way)) then
 bif (decide (p_name = w_way)) then
 some 3
 else
 some 1073741824
 else
 bif (decide (p_name = w_shift)) then
 some 3
 else
 some 1073741824
 else
 bif (decide (p_name = w_fail)) then
 bif (decide (p_name = w_fail)) then
 some 1
 else
 bif (decide (p_name = w_accept)) then
 bif (decide (p_name = w_accept)) then
 some 2
 else
 bif (decide (p_name = w_tower)) then
 bif (decide (p_name = w_tower)) then
 some 3
 else
 some 1073741824
 else
 bif (decide (p_name = w_link)) then
 bif (decide (p_name = w_link)) then
 some 3
 else
 some 1073741824
 else
 bif (decide (p_name = w_fog)) then
 bif (decide (p_name = w_fog)) then
 some 3
 else
 some 1073741824
 else
 bif (decide (p_name = w_first)) then
 bif (decide (p_name = w_first)) then
 some 3
 else
 some 1073741824
 else
 bif (decide (p_name = w_way)) then
 bif (decide (p_name = w_way)) then
 some 3
 else
 some 1073741824
 else
 bif (decide (p_name = w_shift)) then
 some 3
 else
 some 1073741824
 else
 bif (decide (p_name = w_arrived)) then
 some 2
 else
 bif (decide (p_name = w_tower)) then
 bif (decide (p_name = w_tower)) then
 some 3
 else
 some 1073741824
 else
 bif (decide (p_name = w_link)) then
 bif (decide (p_name = w_link)) then
 some 3
 else
 some 1073741824
 else
 bif (decide (p_name = w_fog)) then
 bif (decide (p_name = w_fog)) then
 some 3
 else
 some 1073741824
 else
 bif (decide (p_name = w_first)) then
 bif (decide (p_name = w_first)) then
 some 3
 else
 some 1073741824
 else
 bif (decide (p_name = w_way)) then
 bif (decide (p_name = w_way)) then
 some 3
 else
 some 1073741824
 else
 bif (decide (p_name = w_shift)) then
 some 3
 else
 some 1073741824
 else
 bif (decide (p_name = w_where)) then
 bif (decide (p_name = w_where)) then
 some 1
 else
 bif (decide (p_name = w_accept)) then
 bif (decide (p_name = w_accept)) then
 some 2
 else
 bif (decide (p_name = w_tower)) then
 bif (decide (p_name = w_tower)) then
 some 3
 else
 some 1073741824
 else
 bif (decide (p_name = w_link)) then
 bif (decide (p_name = w_link)) then
 some 3
 else
 some 1073741824
 else
 bif (decide (p_name = w_fog)) then
 bif (decide (p_name = w_fog)) then
 some 3
 else
 some 1073741824
 else
 bif (decide (p_name = w_first)) then
 bif (decide (p_name = w_first)) then
 some 3
 else
 some 1073741824
 else
 bif (decide (p_name = w_way)) then
 bif (decide (p_name = w_way)) then
 some 3
 else
 some 1073741824
 else
 bif (decide (p_name = w_shift)) then
 some 3
 else
 some 1073741824
 else
 bif (decide (p_name = w_arrived)) then
 some 2
 else
 bif (decide (p_name = w_tower)) then
 bif (decide (p_name = w_tower)) then
 some 3
 else
 some 1073741824
 else
 bif (decide (p_name = w_link)) then
 bif (decide (p_name = w_link)) then
 some 3
 else
 some 1073741824
 else
 bif (decide (p_name = w_fog)) then
 bif (decide (p_name = w_fog)) then
 some 3
 else
 some 1073741824
 else
 bif (decide (p_name = w_first)) then
 bif (decide (p_name = w_first)) then
 some 3
 else
 some 1073741824
 else
 bif (decide (p_name = w_way)) then
 bif (decide (p_name = w_way)) then
 some 3
 else
 some 1073741824
 else
 bif (decide (p_name = w_shift)) then
 some 3
 else
 some 1073741824
 else
 bif (decide (p_name = w_duty)) then
 some 1
 else
 bif (decide (p_name = w_accept)) then
 bif (decide (p_name = w_accept)) then
 some 2
 else
 bif (decide (p_name = w_tower)) then
 bif (decide (p_name = w_tower)) then
 some 3
 else
 some 1073741824
 else
 bif (decide (p_name = w_link)) then
 bif (decide (p_name = w_link)) then
 some 3
 else
 some 1073741824
 else
 bif (decide (p_name = w_fog)) then
 bif (decide (p_name = w_fog)) then
 some 3
 else
 some 1073741824
 else
 bif (decide (p_name = w_first)) then
 bif (decide (p_name = w_first)) then
 some 3
 else
 some 1073741824
 else
 bif (decide (p_name = w_way)) then
 bif (decide (p_name = w_way)) then
 some 3
 else
 some 1073741824
 else
 bif (decide (p_name = w_shift)) then
 some 3
 else
 some 1073741824
 else
 bif (decide (p_name = w_arrived)) then
 some 2
 else
 bif (decide (p_name = w_tower)) then
 bif (decide (p_name = w_tower)) then
 some 3
 else
 some 1073741824
 else
 bif (decide (p_name = w_link)) then
 bif (decide (p_name = w_link)) then
 some 3
 else
 some 1073741824
 else
 bif (decide (p_name = w_fog)) then
 bif (decide (p_name = w_fog)) then
 some 3
 else
 some 1073741824
 else
 bif (decide (p_name = w_first)) then
 bif (decide (p_name = w_first)) then
 some 3
 else
 some 1073741824
 else
 bif (decide (p_name = w_way)) then
 bif (decide (p_name = w_way)) then
 some 3
 else
 some 1073741824
 else
 bif (decide (p_name = w_shift)) then
 some 3
 else
 some 1073741824
def C108 : FnSpec := { ps := [.val .str], rs := [.val (.int .i64)], fn := fun x => i_leastNumbers x }
def E108 : Env := { T := [], G := [], ro := [], loops := [], joins := [] }
theorem S108 : Sound Tryz.prog 108 C108 := fun_sound (E := E108) ⟨good_T (by kernel_rfl), good_nil, mixedOk, ins_nil⟩ Tryz.func108 rfl fun _ => by kernel_rfl
def i_mostNumbers (p_name : Bytes) : Option (Int) :=
 bif (decide (p_name = w_phrase)) then
 some 3
 else
 bif (decide (p_name = w_read)) then
 bif (decide (p_name = w_read)) then
 some 20
 else
 (i_leastNumbers p_name).bind fun r1 =>
 some r1
 else
 bif (decide (p_name = w_hide)) then
 some 20
 else
 (i_leastNumbers p_name).bind fun r2 =>
 some r2
def C109 : FnSpec := { ps := [.val .str], rs := [.val (.int .i64)], fn := fun x => i_mostNumbers x }
def E109 : Env := { T := [], G := [(108, C108)], ro := [], loops := [], joins := [] }
theorem S109 : Sound Tryz.prog 109 C109 := fun_sound (E := E109) ⟨good_T (by kernel_rfl), (good_cons S108 ⟨_, Tryz.func108, by kernel_rfl, by kernel_rfl⟩ good_nil), mixedOk, ins_nil⟩ Tryz.func109 rfl fun _ => by kernel_rfl
def i_allWithin (p_l : List Int) (p_low : Int) (p_high : Int) : Option (Bool) :=
 (loopE (fun (st2 : Int) => (
 bif (decide (st2 < (p_l.length : Int))) then
 (idx p_l st2).bind fun e3 =>
 (i_within e3 p_low p_high).bind fun r4 =>
 bif (!r4) then
 some (.inr (.inr false))
 else
 some (.inl (w64 (st2 + 1)))
 else
 some (.inr (.inl ())) : Option ((Int) ⊕ (Unit ⊕ Bool)))) 0).bind fun o5 =>
 match o5 with
 | .inl _ =>
  some true
 | .inr y7 =>
  some y7
def C71 : FnSpec := { ps := [.val (.slice (.int .i64)), .val (.int .i64), .val (.int .i64)], rs := [.val .bool], fn := fun x => i_allWithin x.1 x.2.1 x.2.2 }
def E71 : Env := { T := [(3, (.int .i64)), (26, (.slice (.int .i64)))], G := [(67, C67)], ro := [], loops := [(2, { keep := [1, 2, 9, 10], live := [.tv 11 (.int .i64)], outs := [(.exit 0, []), (.ret, [.tv 6 .bool])] })], joins := [] }
theorem S71 : Sound Tryz.prog 71 C71 := fun_sound (E := E71) ⟨good_T (by kernel_rfl), (good_cons S67 ⟨_, Tryz.func67, by kernel_rfl, by kernel_rfl⟩ good_nil), mixedOk, ins_nil⟩ Tryz.func71 rfl fun _ => by kernel_rfl
def i_IsPhraseText (p_s : Bytes) : Option (Bool) :=
 (bif (decide (1 ≤ (p_s.length : Int))) then
 some (decide ((p_s.length : Int) ≤ 12))
 else
 some false).bind fun c1 =>
 (bif c1 then
 (i_isSmall p_s).bind fun r2 =>
 some r2
 else
 some false).bind fun c3 =>
 some c3
def C88 : FnSpec := { ps := [.val .str], rs := [.val .bool], fn := fun x => i_IsPhraseText x }
def E88 : Env := { T := [(9, .str)], G := [(116, C116)], ro := [], loops := [], joins := [] }
theorem S88 : Sound Tryz.prog 88 C88 := fun_sound (E := E88) ⟨good_T (by kernel_rfl), (good_cons S116 ⟨_, Tryz.func116, by kernel_rfl, by kernel_rfl⟩ good_nil), mixedOk, ins_nil⟩ Tryz.func88 rfl fun _ => by kernel_rfl
def i_isPhrase (p_x : GPhrase) : Option (Bool) :=
 (i_IsPhraseText p_x.1).bind fun r1 =>
 (bif r1 then
 (i_within (p_x.2.1.length : Int) 1 3).bind fun r2 =>
 some r2
 else
 some false).bind fun c3 =>
 (bif c3 then
 (i_allWithin p_x.2.1 1 60).bind fun r4 =>
 some r4
 else
 some false).bind fun c5 =>
 some c5
def C69 : FnSpec := { ps := [.val TGPhrase], rs := [.val .bool], fn := fun x => i_isPhrase x }
def E69 : Env := { T := [(9, .str), (26, (.slice (.int .i64))), (108, TGPhrase)], G := [(67, C67), (71, C71), (88, C88)], ro := [1], loops := [], joins := [] }
theorem S69 : Sound Tryz.prog 69 C69 := fun_sound (E := E69) ⟨good_T (by kernel_rfl), (good_cons S67 ⟨_, Tryz.func67, by kernel_rfl, by kernel_rfl⟩ (good_cons S71 ⟨_, Tryz.func71, by kernel_rfl, by kernel_rfl⟩ (good_cons S88 ⟨_, Tryz.func88, by kernel_rfl, by kernel_rfl⟩ good_nil))), mixedOk, ins_nil⟩ Tryz.func69 rfl fun _ => by kernel_rfl
def slices_Equal_int (p_s1 : List Int) (p_s2 : List Int) : Option (Bool) :=
 bif (!decide ((p_s1.length : Int) = (p_s2.length : Int))) then
 some false
 else
 (loopE (fun (st2 : Int) => (
 bif (decide (st2 < (p_s1.length : Int))) then
 (idx p_s1 st2).bind fun e3 =>
 (idx p_s2 st2).bind fun e4 =>
 bif (!decide (e3 = e4)) then
 some (.inr (.inr false))
 else
 some (.inl (w64 (st2 + 1)))
 else
 some (.inr (.inl ())) : Option ((Int) ⊕ (Unit ⊕ Bool)))) 0).bind fun o5 =>
 match o5 with
 | .inl _ =>
  some true
 | .inr y7 =>
  some y7
def C91 : FnSpec := { ps := [.val (.slice (.int .i64)), .val (.slice (.int .i64))], rs := [.val .bool], fn := fun x => slices_Equal_int x.1 x.2 }
def E91 : Env := { T := [(3, (.int .i64)), (26, (.slice (.int .i64)))], G := [], ro := [], loops := [(4, { keep := [0, 1, 12], live := [.tv 13 (.int .i64)], outs := [(.exit 0, []), (.ret, [.tv 4 .bool])] })], joins := [] }
theorem S91 : Sound Tryz.prog 91 C91 := fun_sound (E := E91) ⟨good_T (by kernel_rfl), good_nil, mixedOk, ins_nil⟩ Tryz.func91 rfl fun _ => by kernel_rfl
def i_phraseIndex_1 (p_x : GPhrase) (p_a1 : List Int) : Option (Bool) :=
 (slices_Equal_int p_x.2.1 p_a1).bind fun r1 =>
 some r1
def C90 : FnSpec := { ps := [.val TGPhrase, .rp (.slice (.int .i64))], rs := [.val .bool], fn := fun x => i_phraseIndex_1 x.1 x.2 }
def E90 : Env := { T := [(26, (.slice (.int .i64))), (108, TGPhrase)], G := [(91, C91)], ro := [2], loops := [], joins := [] }
theorem S90 : Sound Tryz.prog 90 C90 := fun_sound (E := E90) ⟨good_T (by kernel_rfl), (good_cons S91 ⟨_, Tryz.func91, by kernel_rfl, by kernel_rfl⟩ good_nil), mixedOk, ins_nil⟩ Tryz.func90 rfl fun _ => by kernel_rfl
def slices_IndexFunc_Phrase_90 (p_s : List GPhrase) (p_f : (List Int) × Unit) : Option (Int) :=
 (loopE (fun (st2 : Int) => (
 bif (decide (st2 < (p_s.length : Int))) then
 (idx p_s st2).bind fun e3 =>
 (i_phraseIndex_1 e3 p_f.1).bind fun r4 =>
 bif r4 then
 some (.inr (.inr st2))
 else
 some (.inl (w64 (st2 + 1)))
 else
 some (.inr (.inl ())) : Option ((Int) ⊕ (Unit ⊕ Int)))) 0).bind fun o5 =>
 match o5 with
 | .inl _ =>
  some (-1)
 | .inr y7 =>
  some y7
def C89_90 : FnSpec := { ps := [.val (.slice TGPhrase), .fn 90 [(.slice (.int .i64))]], rs := [.val (.int .i64)], fn := fun x => slices_IndexFunc_Phrase_90 x.1 x.2 }
def E89_90 : Env := { T := [(36, (.slice TGPhrase)), (108, TGPhrase)], G := [(90, C90)], ro := [], loops := [(2, { keep := [0, 1, 7], live := [.tv 8 (.int .i64)], outs := [(.exit 0, []), (.ret, [.tv 4 (.int .i64)])] })], joins := [] }
theorem S89_90 : Sound Tryz.prog 89 C89_90 := fun_sound (E := E89_90) ⟨good_T (by kernel_rfl), (good_cons S90 ⟨_, Tryz.func90, by kernel_rfl, by kernel_rfl⟩ good_nil), mixedOk, ins_nil⟩ Tryz.func89 rfl fun _ => by kernel_rfl
def i_phraseIndex (p_b : GBook) (p_signals : List Int) : Option (Int) :=
 (slices_IndexFunc_Phrase_90 p_b.1 (p_signals, ())).bind fun r1 =>
 some r1
def C70 : FnSpec := { ps := [.val TGBook, .val (.slice (.int .i64))], rs := [.val (.int .i64)], fn := fun x => i_phraseIndex x.1 x.2 }
def E70 : Env := { T := [(26, (.slice (.int .i64))), (36, (.slice TGPhrase)), (38, TGBook)], G := [(89, C89_90)], ro := [2, 3], loops := [], joins := [] }
theorem S70 : Sound Tryz.prog 70 C70 := fun_sound (E := E70) ⟨good_T (by kernel_rfl), (good_cons S89_90 ⟨_, Tryz.func89, by kernel_rfl, by kernel_rfl⟩ good_nil), mixedOk, ins_nil⟩ Tryz.func70 rfl fun _ => by kernel_rfl
def i_IsBook (p_b : GBook) : Option (Bool) :=
 (i_within (p_b.1.length : Int) 1 40).bind fun r1 =>
 bif (!r1) then
 some false
 else
 (loopE (fun (st3 : Int) => (
 bif (decide (st3 < (p_b.1.length : Int))) then
 (idx p_b.1 st3).bind fun e4 =>
 (i_isPhrase e4).bind fun r5 =>
 (bif (!r5) then
 some true
 else
 (bif (decide (0 < st3)) then
 (idx p_b.1 (w64 (st3 - 1))).bind fun e6 =>
 some (!Op.bytesLess e6.1 e4.1)
 else
 some false).bind fun c7 =>
 some c7).bind fun c8 =>
 (bif c8 then
 some true
 else
 (sub p_b.1 0 st3).bind fun l9 =>
 (i_phraseIndex (l9, ()) e4.2.1).bind fun r10 =>
 some (decide (0 ≤ r10))).bind fun c11 =>
 bif c11 then
 some (.inr (.inr false))
 else
 some (.inl (w64 (st3 + 1)))
 else
 some (.inr (.inl ())) : Option ((Int) ⊕ (Unit ⊕ Bool)))) 0).bind fun o12 =>
 match o12 with
 | .inl _ =>
  some true
 | .inr y14 =>
  some y14
def C44 : FnSpec := { ps := [.val TGBook], rs := [.val .bool], fn := fun x => i_IsBook x }
def E44 : Env := { T := [(9, .str), (26, (.slice (.int .i64))), (36, (.slice TGPhrase)), (38, TGBook), (108, TGPhrase)], G := [(67, C67), (69, C69), (70, C70)], ro := [1], loops := [(4, { keep := [1, 11, 12], live := [.tv 13 (.int .i64)], outs := [(.exit 0, []), (.ret, [.tv 2 .bool])] })], joins := [] }
theorem S44 : Sound Tryz.prog 44 C44 := fun_sound (E := E44) ⟨good_T (by kernel_rfl), (good_cons S67 ⟨_, Tryz.func67, by kernel_rfl, by kernel_rfl⟩ (good_cons S69 ⟨_, Tryz.func69, by kernel_rfl, by kernel_rfl⟩ (good_cons S70 ⟨_, Tryz.func70, by kernel_rfl, by kernel_rfl⟩ good_nil))), mixedOk, ins_nil⟩ Tryz.func44 rfl fun _ => by kernel_rfl
def slices_Clone_int (p_s : List Int) : Option ((List Int)) :=
 bif List.isEmpty p_s then
 bothSame (
 bif true then
 some []
 else
 bif decide (List.length p_s ≤ lim) then
 some p_s
 else
 none)
 (
 bif false then
 some []
 else
 bif decide (List.length p_s ≤ lim) then
 some p_s
 else
 none)
 else
 bif false then
 some []
 else
 bif decide (List.length p_s ≤ lim) then
 some p_s
 else
 none
def C196 : FnSpec := { ps := [.val (.slice (.int .i64))], rs := [.own (.slice (.int .i64))], fn := fun x => slices_Clone_int x }
def E196 : Env := { T := [(26, (.slice (.int .i64)))], G := [], ro := [], loops := [], joins := [] }
theorem S196 : Sound Tryz.prog 196 C196 := fun_sound (E := E196) ⟨good_T (by kernel_rfl), good_nil, mixedOk, ins_nil⟩ Tryz.func196 rfl fun _ => by kernel_rfl
def i_cloneBook (p_b : GBook) : Option (GBook) :=
 bif decide (0 ≤ (p_b.1.length : Int)) && decide ((p_b.1.length : Int) ≤ (p_b.1.length : Int)) && decide ((p_b.1.length : Int) ≤ lim) then
 (loopE (fun (st2 : (List GPhrase) × (List GPhrase) × Int) => (
 bif (decide (st2.2.2 < (p_b.1.length : Int))) then
 (idx p_b.1 st2.2.2).bind fun e3 =>
 (slices_Clone_int e3.2.1).bind fun r4 =>
 bif decide (0 ≤ st2.2.2) && decide (st2.2.2 < (st2.2.1.length : Int)) then
 some (.inl (st2.1, (st2.2.1.set (Int.toNat st2.2.2) (e3.1, r4, ())), (w64 (st2.2.2 + 1))))
 else
 none
 else
 some (.inr (st2.1, st2.2.1)) : Option (((List GPhrase) × (List GPhrase) × Int) ⊕ (((List GPhrase) × (List GPhrase)))))) ([], (List.replicate (Int.toNat (p_b.1.length : Int)) (([], ([], ())) : GPhrase)), 0)).bind fun o5 =>
 some (o5.2, ())
 else
 none
def C195 : FnSpec := { ps := [.val TGBook], rs := [.own TGBook], fn := fun x => i_cloneBook x }
def E195 : Env := { T := [(9, .str), (26, (.slice (.int .i64))), (36, (.slice TGPhrase)), (38, TGBook), (108, TGPhrase)], G := [(196, C196)], ro := [1], loops := [(3, { keep := [12, 13], live := [.bx 2 32 [.own 300032 TGPhrase true], .bx 3 48 [.own 144 TGPhrase true], .tv 14 (.int .i64)], outs := [(.exit 0, [.bx 2 32 [.own 300032 TGPhrase true], .bx 3 48 [.own 144 TGPhrase true]])] })], joins := [], mv := true }
theorem S195 : Sound Tryz.prog 195 C195 := fun_sound (E := E195) ⟨good_T (by kernel_rfl), (good_cons S196 ⟨_, Tryz.func196, by kernel_rfl, by kernel_rfl⟩ good_nil), mixedOk, ins_nil⟩ Tryz.func195 rfl fun _ => by kernel_rfl
def i_AddPhrase (p_b : GBook) (p_x : GPhrase) : Option (GBook × Bool) :=
 (i_IsBook p_b).bind fun r1 =>
 (bif (!r1) then
 some true
 else
 (i_isPhrase p_x).bind fun r2 =>
 some (!r2)).bind fun c3 =>
 bif c3 then
 some (([], ()), false)
 else
 (i_cloneBook p_b).bind fun r4 =>
 (loopE (fun (st6 : Bytes × (List Int) × (List GPhrase) × (List GPhrase) × Int) => (
 (bif (decide (st6.2.2.2.2 < (st6.2.2.2.1.length : Int))) then
 bif decide (0 ≤ st6.2.2.2.2) && decide (st6.2.2.2.2 < (st6.2.2.2.1.length : Int)) then
 (st6.2.2.2.1[(Int.toNat st6.2.2.2.2)]?).bind fun e7 =>
 some (Op.bytesLess e7.1 st6.1)
 else
 none
 else
 some false).bind fun c8 =>
 bif c8 then
 some (.inl (st6.1, st6.2.1, st6.2.2.1, st6.2.2.2.1, (w64 (st6.2.2.2.2 + 1))))
 else
 some (.inr (st6.1, st6.2.1, st6.2.2.1, st6.2.2.2.1, st6.2.2.2.2)) : Option ((Bytes × (List Int) × (List GPhrase) × (List GPhrase) × Int) ⊕ ((Bytes × (List Int) × (List GPhrase) × (List GPhrase) × Int))))) (p_x.1, p_x.2.1, [], r4.1, 0)).bind fun o9 =>
 (slices_Clone_int o9.2.1).bind fun r10 =>
 bif decide (0 ≤ o9.2.2.2.2) && decide (o9.2.2.2.2 ≤ (o9.2.2.2.1.length : Int)) && decide (List.length o9.2.2.2.1 ≤ 999999) then
 (i_IsBook ((insV o9.2.2.2.1 o9.2.2.2.2 (o9.1, r10, ())), ())).bind fun r11 =>
 bif (!r11) then
 some (([], ()), false)
 else
 some (((insV o9.2.2.2.1 o9.2.2.2.2 (o9.1, r10, ())), ()), true)
 else
 none
def C144 : FnSpec := { ps := [.val TGBook, .val TGPhrase], rs := [.own TGBook, .val .bool], fn := fun x => i_AddPhrase x.1 x.2 }
def E144 : Env := { T := [(9, .str), (26, (.slice (.int .i64))), (36, (.slice TGPhrase)), (38, TGBook), (108, TGPhrase)], G := [(44, C44), (69, C69), (195, C195), (196, C196)], ro := [2], loops := [(5, { keep := [], live := [.bx 3 48 [.pv .str, .pv (.slice (.int .i64))], .bx 4 64 [.own 300064 TGPhrase true], .bx 6 96 [.own 288 TGPhrase true], .tv 7 (.int .i64)], outs := [(.exit 0, [.bx 3 48 [.pv .str, .pv (.slice (.int .i64))], .bx 4 64 [.own 300064 TGPhrase true], .bx 6 96 [.own 288 TGPhrase true], .tv 7 (.int .i64)])] })], joins := [], mv := true, ins := [(197, TGPhrase)] }
theorem S144 : Sound Tryz.prog 144 C144 := fun_sound (E := E144) ⟨good_T (by kernel_rfl), (good_cons S44 ⟨_, Tryz.func44, by kernel_rfl, by kernel_rfl⟩ (good_cons S69 ⟨_, Tryz.func69, by kernel_rfl, by kernel_rfl⟩ (good_cons S195 ⟨_, Tryz.func195, by kernel_rfl, by kernel_rfl⟩ (good_cons S196 ⟨_, Tryz.func196, by kernel_rfl, by kernel_rfl⟩ good_nil)))), mixedOk, (ins_cons insOk197 ⟨_, Tryz.func197, by kernel_rfl, by kernel_rfl⟩ ins_nil)⟩ Tryz.func144 rfl fun _ => by kernel_rfl
def i_isLetters (p_s : Bytes) : Option (Bool) :=
 (bif (decide ((p_s.length : Int) ≤ 40)) then
 (i_isSmall p_s).bind fun r1 =>
 some r1
 else
 some false).bind fun c2 =>
 some c2
def C260 : FnSpec := { ps := [.val .str], rs := [.val .bool], fn := fun x => i_isLetters x }
def E260 : Env := { T := [(9, .str)], G := [(116, C116)], ro := [], loops := [], joins := [] }
theorem S260 : Sound Tryz.prog 260 C260 := fun_sound (E := E260) ⟨good_T (by kernel_rfl), (good_cons S116 ⟨_, Tryz.func116, by kernel_rfl, by kernel_rfl⟩ good_nil), mixedOk, ins_nil⟩ Tryz.func260 rfl fun _ => by kernel_rfl
def internal_stringslite_HasPrefix (p_s : Bytes) (p_prefix : Bytes) : Option (Bool) :=
 (bif (decide ((p_prefix.length : Int) ≤ (p_s.length : Int))) then
 (sub p_s 0 (p_prefix.length : Int)).bind fun l1 =>
 some (decide (l1 = p_prefix))
 else
 some false).bind fun c2 =>
 some c2
def C350 : FnSpec := { ps := [.val .str, .val .str], rs := [.val .bool], fn := fun x => internal_stringslite_HasPrefix x.1 x.2 }
def E350 : Env := { T := [(9, .str)], G := [], ro := [], loops := [], joins := [] }
theorem S350 : Sound Tryz.prog 350 C350 := fun_sound (E := E350) ⟨good_T (by kernel_rfl), good_nil, mixedOk, ins_nil⟩ Tryz.func350 rfl fun _ => by kernel_rfl
def strings_HasPrefix (p_s : Bytes) (p_prefix : Bytes) : Option (Bool) :=
 (internal_stringslite_HasPrefix p_s p_prefix).bind fun r1 =>
 some r1
def C305 : FnSpec := { ps := [.val .str, .val .str], rs := [.val .bool], fn := fun x => strings_HasPrefix x.1 x.2 }
def E305 : Env := { T := [], G := [(350, C350)], ro := [], loops := [], joins := [] }
theorem S305 : Sound Tryz.prog 305 C305 := fun_sound (E := E305) ⟨good_T (by kernel_rfl), (good_cons S350 ⟨_, Tryz.func350, by kernel_rfl, by kernel_rfl⟩ good_nil), mixedOk, ins_nil⟩ Tryz.func305 rfl fun _ => by kernel_rfl
def i_spell (p_b : GBook) (p_s : Bytes) : Option ((List Int) × Bool) :=
 bif decide (0 ≤ (w64 ((p_s.length : Int) + 1))) && decide ((w64 ((p_s.length : Int) + 1)) ≤ (w64 ((p_s.length : Int) + 1))) && decide ((w64 ((p_s.length : Int) + 1)) ≤ lim) then
 bif decide (0 ≤ (w64 ((p_s.length : Int) + 1))) && decide ((w64 ((p_s.length : Int) + 1)) ≤ (w64 ((p_s.length : Int) + 1))) && decide ((w64 ((p_s.length : Int) + 1)) ≤ lim) then
 (loopE (fun (st2 : (List Int) × (List Int) × Int) => (
 bif (decide (0 ≤ st2.2.2)) then
 bif decide (0 ≤ st2.2.2) && decide (st2.2.2 < (st2.1.length : Int)) then
 (loopE (fun (st4 : (List Int) × (List Int) × Int) => (
 bif (decide (st4.2.2 < (p_b.1.length : Int))) then
 (idx p_b.1 st4.2.2).bind fun e5 =>
 (sub p_s st2.2.2 (p_s.length : Int)).bind fun l6 =>
 (strings_HasPrefix l6 e5.1).bind fun r7 =>
 bif (!r7) then
 some (.inl (st4.1, st4.2.1, (w64 (st4.2.2 + 1))))
 else
 bif decide (0 ≤ (w64 (st2.2.2 + (e5.1.length : Int)))) && decide ((w64 (st2.2.2 + (e5.1.length : Int))) < (st4.1.length : Int)) then
 (st4.1[(Int.toNat (w64 (st2.2.2 + (e5.1.length : Int))))]?).bind fun e8 =>
 bif decide (0 ≤ st2.2.2) && decide (st2.2.2 < (st4.1.length : Int)) then
 (st4.1[(Int.toNat st2.2.2)]?).bind fun e9 =>
 bif (decide ((w64 (e8 + (e5.2.1.length : Int))) < e9)) then
 bif decide (0 ≤ st2.2.2) && decide (st2.2.2 < (st4.1.length : Int)) then
 bif decide (0 ≤ st2.2.2) && decide (st2.2.2 < (st4.2.1.length : Int)) then
 some (.inl ((st4.1.set (Int.toNat st2.2.2) (w64 (e8 + (e5.2.1.length : Int)))), (st4.2.1.set (Int.toNat st2.2.2) st4.2.2), (w64 (st4.2.2 + 1))))
 else
 none
 else
 none
 else
 some (.inl (st4.1, st4.2.1, (w64 (st4.2.2 + 1))))
 else
 none
 else
 none
 else
 some (.inr (st4.1, st4.2.1)) : Option (((List Int) × (List Int) × Int) ⊕ (((List Int) × (List Int)))))) ((st2.1.set (Int.toNat st2.2.2) 1073741824), st2.2.1, 0)).bind fun o10 =>
 some (.inl (o10.1, o10.2, (w64 (st2.2.2 - 1))))
 else
 none
 else
 some (.inr (st2.1, st2.2.1)) : Option (((List Int) × (List Int) × Int) ⊕ (((List Int) × (List Int)))))) ((List.replicate (Int.toNat (w64 ((p_s.length : Int) + 1))) (0 : Int)), (List.replicate (Int.toNat (w64 ((p_s.length : Int) + 1))) (0 : Int)), (w64 ((p_s.length : Int) - 1)))).bind fun o11 =>
 bif decide (0 ≤ 0) && decide (0 < (o11.1.length : Int)) then
 (o11.1[(Int.toNat 0)]?).bind fun e12 =>
 bif (decide (1073741824 ≤ e12)) then
 some ([], false)
 else
 (loopE (fun (st14 : (List Int) × (List Int) × Int) => (
 bif (decide (st14.2.2 < (p_s.length : Int))) then
 bif decide (0 ≤ st14.2.2) && decide (st14.2.2 < (st14.1.length : Int)) then
 (st14.1[(Int.toNat st14.2.2)]?).bind fun e15 =>
 bif decide (List.length st14.2.1 + List.length [e15] ≤ lim) then
 bif decide (0 ≤ st14.2.2) && decide (st14.2.2 < (st14.1.length : Int)) then
 (st14.1[(Int.toNat st14.2.2)]?).bind fun e16 =>
 (idx p_b.1 e16).bind fun e17 =>
 some (.inl (st14.1, (st14.2.1 ++ [e15]), (w64 (st14.2.2 + (e17.1.length : Int)))))
 else
 none
 else
 none
 else
 none
 else
 some (.inr st14.2.1) : Option (((List Int) × (List Int) × Int) ⊕ ((List Int))))) (o11.2, [], 0)).bind fun o18 =>
 some (o18, true)
 else
 none
 else
 none
 else
 none
def C261 : FnSpec := { ps := [.val TGBook, .val .str], rs := [.own (.slice (.int .i64)), .val .bool], fn := fun x => i_spell x.1 x.2 }
def E261 : Env := { T := [(3, (.int .i64)), (9, .str), (26, (.slice (.int .i64))), (36, (.slice TGPhrase)), (38, TGBook), (108, TGPhrase)], G := [(305, C305)], ro := [2], loops := [(4, { keep := [1, 2], live := [.own 6 [] 272 (.int .i64) true, .own 7 [] 336 (.int .i64) true, .tv 8 (.int .i64)], outs := [(.exit 0, [.own 6 [] 272 (.int .i64) true, .own 7 [] 336 (.int .i64) true])] }), (8, { keep := [1, 2, 8, 33, 34], live := [.own 6 [] 272 (.int .i64) true, .own 7 [] 336 (.int .i64) true, .tv 35 (.int .i64)], outs := [(.exit 2, [.own 6 [] 272 (.int .i64) true, .own 7 [] 336 (.int .i64) true])] }), (19, { keep := [1, 2], live := [.own 7 [] 336 (.int .i64) true, .own 12 [] 200012 (.int .i64) true, .tv 13 (.int .i64)], outs := [(.exit 4, [.own 12 [] 200012 (.int .i64) true])] })], joins := [] }
theorem S261 : Sound Tryz.prog 261 C261 := fun_sound (E := E261) ⟨good_T (by kernel_rfl), (good_cons S305 ⟨_, Tryz.func305, by kernel_rfl, by kernel_rfl⟩ good_nil), mixedOk, ins_nil⟩ Tryz.func261 rfl fun _ => by kernel_rfl
def i_SpellMessage (p_b : GBook) (p_s : Bytes) : Option ((List Int) × Bool) :=
 (i_IsBook p_b).bind fun r1 =>
 (bif (!r1) then
 some true
 else
 (i_isLetters p_s).bind fun r2 =>
 some (!r2)).bind fun c3 =>
 bif c3 then
 some ([], false)
 else
 (i_spell p_b p_s).bind fun r4 =>
 some (r4.1, r4.2)
def C198 : FnSpec := { ps := [.val TGBook, .val .str], rs := [.own (.slice (.int .i64)), .val .bool], fn := fun x => i_SpellMessage x.1 x.2 }
def E198 : Env := { T := [(38, TGBook)], G := [(44, C44), (260, C260), (261, C261)], ro := [2], loops := [], joins := [] }
theorem S198 : Sound Tryz.prog 198 C198 := fun_sound (E := E198) ⟨good_T (by kernel_rfl), (good_cons S44 ⟨_, Tryz.func44, by kernel_rfl, by kernel_rfl⟩ (good_cons S260 ⟨_, Tryz.func260, by kernel_rfl, by kernel_rfl⟩ (good_cons S261 ⟨_, Tryz.func261, by kernel_rfl, by kernel_rfl⟩ good_nil))), mixedOk, ins_nil⟩ Tryz.func198 rfl fun _ => by kernel_rfl
def i_EncodeMessage (p_b : GBook) (p_s : Bytes) : Option ((List Int) × Bool) :=
 (i_SpellMessage p_b p_s).bind fun r1 =>
 (loopE (fun (st3 : (List Int) × (List Int) × Int) => (
 bif (decide (st3.2.2 < (r1.1.length : Int))) then
 bif decide (0 ≤ st3.2.2) && decide (st3.2.2 < (st3.2.1.length : Int)) then
 (st3.2.1[(Int.toNat st3.2.2)]?).bind fun e4 =>
 (idx p_b.1 e4).bind fun e5 =>
 bif decide (List.length st3.1 + List.length e5.2.1 ≤ lim) then
 some (.inl ((st3.1 ++ e5.2.1), st3.2.1, (w64 (st3.2.2 + 1))))
 else
 none
 else
 none
 else
 some (.inr st3.1) : Option (((List Int) × (List Int) × Int) ⊕ ((List Int))))) ([], r1.1, 0)).bind fun o6 =>
 some (o6, r1.2)
def C145 : FnSpec := { ps := [.val TGBook, .val .str], rs := [.own (.slice (.int .i64)), .val .bool], fn := fun x => i_EncodeMessage x.1 x.2 }
def E145 : Env := { T := [(3, (.int .i64)), (26, (.slice (.int .i64))), (36, (.slice TGPhrase)), (38, TGBook), (108, TGPhrase)], G := [(198, C198)], ro := [2], loops := [(4, { keep := [2, 7, 18], live := [.own 8 [] 200008 (.int .i64) true, .own 17 [] 224 (.int .i64) true, .tv 19 (.int .i64)], outs := [(.exit 0, [.own 8 [] 200008 (.int .i64) true])] })], joins := [] }
theorem S145 : Sound Tryz.prog 145 C145 := fun_sound (E := E145) ⟨good_T (by kernel_rfl), (good_cons S198 ⟨_, Tryz.func198, by kernel_rfl, by kernel_rfl⟩ good_nil), mixedOk, ins_nil⟩ Tryz.func145 rfl fun _ => by kernel_rfl
def C143 : FnSpec := { ps := [.val (.int .i64)], rs := [.val .str], fn := fun x => itoaF x }
theorem S143 : Sound Tryz.prog 143 C143 := itoaSound
def C199 : FnSpec := { ps := [.val (.slice .str), .val .str], rs := [.val .str], fn := fun x => joinF x.1 x.2 }
theorem S199 : Sound Tryz.prog 199 C199 := joinSound
def i_joinNumbers (p_l : List Int) (p_by : Bytes) : Option (Bytes) :=
 bif decide (0 ≤ (p_l.length : Int)) && decide ((p_l.length : Int) ≤ (p_l.length : Int)) && decide ((p_l.length : Int) ≤ lim) then
 (loopE (fun (st2 : (List Bytes) × Int) => (
 bif (decide (st2.2 < (p_l.length : Int))) then
 (idx p_l st2.2).bind fun e3 =>
 (itoaF e3).bind fun r4 =>
 bif decide (0 ≤ st2.2) && decide (st2.2 < (st2.1.length : Int)) then
 some (.inl ((st2.1.set (Int.toNat st2.2) r4), (w64 (st2.2 + 1))))
 else
 none
 else
 some (.inr st2.1) : Option (((List Bytes) × Int) ⊕ ((List Bytes))))) ((List.replicate (Int.toNat (p_l.length : Int)) ([] : Bytes)), 0)).bind fun o5 =>
 (joinF o5 p_by).bind fun r6 =>
 some r6
 else
 none
def C146 : FnSpec := { ps := [.val (.slice (.int .i64)), .val .str], rs := [.val .str], fn := fun x => i_joinNumbers x.1 x.2 }
def E146 : Env := { T := [(3, (.int .i64)), (9, .str), (26, (.slice (.int .i64))), (69, (.slice .str))], G := [(143, C143), (199, C199)], ro := [], loops := [(3, { keep := [1, 11, 12], live := [.own 5 [] 160 .str true, .tv 13 (.int .i64)], outs := [(.exit 0, [.own 5 [] 160 .str true])] })], joins := [] }
theorem S146 : Sound Tryz.prog 146 C146 := fun_sound (E := E146) ⟨good_T (by kernel_rfl), (good_cons S143 ⟨_, Tryz.func143, by kernel_rfl, by kernel_rfl⟩ (good_cons S199 ⟨_, Tryz.func199, by kernel_rfl, by kernel_rfl⟩ good_nil)), mixedOk, ins_nil⟩ Tryz.func146 rfl fun _ => by kernel_rfl
def i_areRead (p_signals : List Int) : Option (Bool) :=
 (bif (decide ((p_signals.length : Int) ≤ 60)) then
 (i_allWithin p_signals 1 60).bind fun r1 =>
 some r1
 else
 some false).bind fun c2 =>
 some c2
def C200 : FnSpec := { ps := [.val (.slice (.int .i64))], rs := [.val .bool], fn := fun x => i_areRead x }
def E200 : Env := { T := [(26, (.slice (.int .i64)))], G := [(71, C71)], ro := [], loops := [], joins := [] }
theorem S200 : Sound Tryz.prog 200 C200 := fun_sound (E := E200) ⟨good_T (by kernel_rfl), (good_cons S71 ⟨_, Tryz.func71, by kernel_rfl, by kernel_rfl⟩ good_nil), mixedOk, ins_nil⟩ Tryz.func200 rfl fun _ => by kernel_rfl
def i_begins (p_a : List Int) (p_b : List Int) : Option (Bool) :=
 (bif (decide ((p_a.length : Int) ≤ (p_b.length : Int))) then
 (sub p_b 0 (p_a.length : Int)).bind fun l1 =>
 (slices_Equal_int p_a l1).bind fun r2 =>
 some r2
 else
 some false).bind fun c3 =>
 some c3
def C263 : FnSpec := { ps := [.val (.slice (.int .i64)), .val (.slice (.int .i64))], rs := [.val .bool], fn := fun x => i_begins x.1 x.2 }
def E263 : Env := { T := [(26, (.slice (.int .i64)))], G := [(91, C91)], ro := [], loops := [], joins := [] }
theorem S263 : Sound Tryz.prog 263 C263 := fun_sound (E := E263) ⟨good_T (by kernel_rfl), (good_cons S91 ⟨_, Tryz.func91, by kernel_rfl, by kernel_rfl⟩ good_nil), mixedOk, ins_nil⟩ Tryz.func263 rfl fun _ => by kernel_rfl
def i_readings (p_b : GBook) (p_signals : List Int) : Option ((List Int)) :=
 bif decide (0 ≤ (w64 ((p_signals.length : Int) + 1))) && decide ((w64 ((p_signals.length : Int) + 1)) ≤ (w64 ((p_signals.length : Int) + 1))) && decide ((w64 ((p_signals.length : Int) + 1)) ≤ lim) then
 bif decide (0 ≤ (p_signals.length : Int)) && decide ((p_signals.length : Int) < ((List.replicate (Int.toNat (w64 ((p_signals.length : Int) + 1))) (0 : Int)).length : Int)) then
 (loopE (fun (st2 : (List Int) × Int) => (
 bif (decide (0 ≤ st2.2)) then
 (loopE (fun (st4 : (List Int) × Int) => (
 bif (decide (st4.2 < (p_b.1.length : Int))) then
 (idx p_b.1 st4.2).bind fun e5 =>
 (sub p_signals st2.2 (p_signals.length : Int)).bind fun l6 =>
 (i_begins e5.2.1 l6).bind fun r7 =>
 bif r7 then
 bif decide (0 ≤ st2.2) && decide (st2.2 < (st4.1.length : Int)) then
 (st4.1[(Int.toNat st2.2)]?).bind fun e8 =>
 bif decide (0 ≤ (w64 (st2.2 + (e5.2.1.length : Int)))) && decide ((w64 (st2.2 + (e5.2.1.length : Int))) < (st4.1.length : Int)) then
 (st4.1[(Int.toNat (w64 (st2.2 + (e5.2.1.length : Int))))]?).bind fun e9 =>
 bif decide (0 ≤ st2.2) && decide (st2.2 < (st4.1.length : Int)) then
 some (.inl ((st4.1.set (Int.toNat st2.2) (w64 (e8 + e9))), (w64 (st4.2 + 1))))
 else
 none
 else
 none
 else
 none
 else
 some (.inl (st4.1, (w64 (st4.2 + 1))))
 else
 some (.inr st4.1) : Option (((List Int) × Int) ⊕ ((List Int))))) (st2.1, 0)).bind fun o10 =>
 some (.inl (o10, (w64 (st2.2 - 1))))
 else
 some (.inr st2.1) : Option (((List Int) × Int) ⊕ ((List Int))))) (((List.replicate (Int.toNat (w64 ((p_signals.length : Int) + 1))) (0 : Int)).set (Int.toNat (p_signals.length : Int)) 1), (w64 ((p_signals.length : Int) - 1)))).bind fun o11 =>
 some o11
 else
 none
 else
 none
def C201 : FnSpec := { ps := [.val TGBook, .val (.slice (.int .i64))], rs := [.own (.slice (.int .i64))], fn := fun x => i_readings x.1 x.2 }
def E201 : Env := { T := [(3, (.int .i64)), (26, (.slice (.int .i64))), (36, (.slice TGPhrase)), (38, TGBook), (108, TGPhrase)], G := [(263, C263)], ro := [2], loops := [(4, { keep := [1, 2], live := [.own 5 [] 192 (.int .i64) true, .tv 6 (.int .i64)], outs := [(.exit 0, [.own 5 [] 192 (.int .i64) true])] }), (7, { keep := [1, 2, 6, 25, 26], live := [.own 5 [] 192 (.int .i64) true, .tv 27 (.int .i64)], outs := [(.exit 2, [.own 5 [] 192 (.int .i64) true])] })], joins := [] }
theorem S201 : Sound Tryz.prog 201 C201 := fun_sound (E := E201) ⟨good_T (by kernel_rfl), (good_cons S263 ⟨_, Tryz.func263, by kernel_rfl, by kernel_rfl⟩ good_nil), mixedOk, ins_nil⟩ Tryz.func201 rfl fun _ => by kernel_rfl
def i_firstReading_1 (p_x : GPhrase) (p_a1 : List Int) (p_a2 : Int) (p_a3 : List Int) : Option (Bool) :=
 (sub p_a1 p_a2 (p_a1.length : Int)).bind fun l1 =>
 (i_begins p_x.2.1 l1).bind fun r2 =>
 (bif r2 then
 (idx p_a3 (w64 (p_a2 + (p_x.2.1.length : Int)))).bind fun e3 =>
 some (decide (0 < e3))
 else
 some false).bind fun c4 =>
 some c4
def C264 : FnSpec := { ps := [.val TGPhrase, .rp (.slice (.int .i64)), .rp (.int .i64), .rp (.slice (.int .i64))], rs := [.val .bool], fn := fun x => i_firstReading_1 x.1 x.2.1 x.2.2.1 x.2.2.2 }
def E264 : Env := { T := [(3, (.int .i64)), (26, (.slice (.int .i64))), (108, TGPhrase)], G := [(263, C263)], ro := [4], loops := [], joins := [] }
theorem S264 : Sound Tryz.prog 264 C264 := fun_sound (E := E264) ⟨good_T (by kernel_rfl), (good_cons S263 ⟨_, Tryz.func263, by kernel_rfl, by kernel_rfl⟩ good_nil), mixedOk, ins_nil⟩ Tryz.func264 rfl fun _ => by kernel_rfl
def slices_IndexFunc_Phrase_264 (p_s : List GPhrase) (p_f : (List Int) × Int × (List Int) × Unit) : Option (Int) :=
 (loopE (fun (st2 : Int) => (
 bif (decide (st2 < (p_s.length : Int))) then
 (idx p_s st2).bind fun e3 =>
 (i_firstReading_1 e3 p_f.1 p_f.2.1 p_f.2.2.1).bind fun r4 =>
 bif r4 then
 some (.inr (.inr st2))
 else
 some (.inl (w64 (st2 + 1)))
 else
 some (.inr (.inl ())) : Option ((Int) ⊕ (Unit ⊕ Int)))) 0).bind fun o5 =>
 match o5 with
 | .inl _ =>
  some (-1)
 | .inr y7 =>
  some y7
def C89_264 : FnSpec := { ps := [.val (.slice TGPhrase), .fn 264 [(.slice (.int .i64)), (.int .i64), (.slice (.int .i64))]], rs := [.val (.int .i64)], fn := fun x => slices_IndexFunc_Phrase_264 x.1 x.2 }
def E89_264 : Env := { T := [(36, (.slice TGPhrase)), (108, TGPhrase)], G := [(264, C264)], ro := [], loops := [(2, { keep := [0, 1, 7], live := [.tv 8 (.int .i64)], outs := [(.exit 0, []), (.ret, [.tv 4 (.int .i64)])] })], joins := [] }
theorem S89_264 : Sound Tryz.prog 89 C89_264 := fun_sound (E := E89_264) ⟨good_T (by kernel_rfl), (good_cons S264 ⟨_, Tryz.func264, by kernel_rfl, by kernel_rfl⟩ good_nil), mixedOk, ins_nil⟩ Tryz.func89 rfl fun _ => by kernel_rfl
def i_firstReading (p_b : GBook) (p_signals : List Int) : Option ((List Int) × Bool) :=
 (i_readings p_b p_signals).bind fun r1 =>
 bif decide (0 ≤ 0) && decide (0 < (r1.length : Int)) then
 (r1[(Int.toNat 0)]?).bind fun e2 =>
 bif (decide (e2 = 0)) then
 some ([], false)
 else
 (loopE (fun (st4 : (List Int) × Int) => (
 bif (decide (st4.2 < (p_signals.length : Int))) then
 (slices_IndexFunc_Phrase_264 p_b.1 (p_signals, st4.2, r1, ())).bind fun r5 =>
 bif decide (List.length st4.1 + List.length [r5] ≤ lim) then
 (idx p_b.1 r5).bind fun e6 =>
 some (.inl ((st4.1 ++ [r5]), (w64 (st4.2 + (e6.2.1.length : Int)))))
 else
 none
 else
 some (.inr st4.1) : Option (((List Int) × Int) ⊕ ((List Int))))) ([], 0)).bind fun o7 =>
 some (o7, true)
 else
 none
def C202 : FnSpec := { ps := [.val TGBook, .val (.slice (.int .i64))], rs := [.own (.slice (.int .i64)), .val .bool], fn := fun x => i_firstReading x.1 x.2 }
def E202 : Env := { T := [(3, (.int .i64)), (26, (.slice (.int .i64))), (36, (.slice TGPhrase)), (38, TGBook), (108, TGPhrase)], G := [(89, C89_264), (201, C201)], ro := [2, 3], loops := [(6, { keep := [2, 3, 6], live := [.own 7 [] 200007 (.int .i64) true, .bx 8 128 [.pv (.int .i64)]], outs := [(.exit 0, [.own 7 [] 200007 (.int .i64) true])] })], joins := [], pre := [(4, [192])], preb := [(4, [(96, (.slice (.int .i64)))])], lend := [(7, [(128, (.int .i64))])] }
theorem S202 : Sound Tryz.prog 202 C202 := fun_sound (E := E202) ⟨good_T (by kernel_rfl), (good_cons S89_264 ⟨_, Tryz.func89, by kernel_rfl, by kernel_rfl⟩ (good_cons S201 ⟨_, Tryz.func201, by kernel_rfl, by kernel_rfl⟩ good_nil)), mixedOk, ins_nil⟩ Tryz.func202 rfl fun _ => by kernel_rfl
def C203 : FnSpec := { ps := [.val TGBook, .val (.slice (.int .i64))], rs := [.val .str], fn := fun x => textF x.1 x.2 }
theorem S203 : Sound Tryz.prog 203 C203 := textSound
def i_ReadMessage (p_b : GBook) (p_signals : List Int) : Option (Bytes × Bool) :=
 (i_IsBook p_b).bind fun r1 =>
 (bif (!r1) then
 some true
 else
 (i_areRead p_signals).bind fun r2 =>
 some (!r2)).bind fun c3 =>
 (bif c3 then
 some true
 else
 (i_readings p_b p_signals).bind fun r4 =>
 bif decide (0 ≤ 0) && decide (0 < (r4.length : Int)) then
 (r4[(Int.toNat 0)]?).bind fun e5 =>
 some (!decide (e5 = 1))
 else
 none).bind fun c6 =>
 bif c6 then
 some ([], false)
 else
 (i_firstReading p_b p_signals).bind fun r7 =>
 (textF p_b r7.1).bind fun r8 =>
 some (r8, true)
def C147 : FnSpec := { ps := [.val TGBook, .val (.slice (.int .i64))], rs := [.val .str, .val .bool], fn := fun x => i_ReadMessage x.1 x.2 }
def E147 : Env := { T := [(3, (.int .i64)), (26, (.slice (.int .i64))), (38, TGBook)], G := [(44, C44), (200, C200), (201, C201), (202, C202), (203, C203)], ro := [2], loops := [], joins := [] }
theorem S147 : Sound Tryz.prog 147 C147 := fun_sound (E := E147) ⟨good_T (by kernel_rfl), (good_cons S44 ⟨_, Tryz.func44, by kernel_rfl, by kernel_rfl⟩ (good_cons S200 ⟨_, Tryz.func200, by kernel_rfl, by kernel_rfl⟩ (good_cons S201 ⟨_, Tryz.func201, by kernel_rfl, by kernel_rfl⟩ (good_cons S202 ⟨_, Tryz.func202, by kernel_rfl, by kernel_rfl⟩ (good_cons S203 ⟨_, Tryz.func203, by kernel_rfl, by kernel_rfl⟩ good_nil))))), mixedOk, ins_nil⟩ Tryz.func147 rfl fun _ => by kernel_rfl
def i_increasing (p_l : List Int) : Option (Bool) :=
 (loopE (fun (st2 : Int) => (
 bif (decide (st2 < (p_l.length : Int))) then
 (idx p_l (w64 (st2 - 1))).bind fun e3 =>
 (idx p_l st2).bind fun e4 =>
 bif (decide (e4 ≤ e3)) then
 some (.inr (.inr false))
 else
 some (.inl (w64 (st2 + 1)))
 else
 some (.inr (.inl ())) : Option ((Int) ⊕ (Unit ⊕ Bool)))) 1).bind fun o5 =>
 match o5 with
 | .inl _ =>
  some true
 | .inr y7 =>
  some y7
def C72 : FnSpec := { ps := [.val (.slice (.int .i64))], rs := [.val .bool], fn := fun x => i_increasing x }
def E72 : Env := { T := [(3, (.int .i64)), (26, (.slice (.int .i64)))], G := [], ro := [], loops := [(2, { keep := [0], live := [.tv 3 (.int .i64)], outs := [(.exit 0, []), (.ret, [.tv 2 .bool])] })], joins := [] }
theorem S72 : Sound Tryz.prog 72 C72 := fun_sound (E := E72) ⟨good_T (by kernel_rfl), good_nil, mixedOk, ins_nil⟩ Tryz.func72 rfl fun _ => by kernel_rfl
def i_IsKeyBook (p_b : GKeyBook) : Option (Bool) :=
 (i_within p_b.1 0 1000000000).bind fun r1 =>
 (bif r1 then
 (i_within p_b.2.1 1 60).bind fun r2 =>
 some r2
 else
 some false).bind fun c3 =>
 (bif c3 then
 (i_allWithin p_b.2.2.1 0 (w64 (p_b.2.1 - 1))).bind fun r4 =>
 some r4
 else
 some false).bind fun c5 =>
 (bif c5 then
 (i_increasing p_b.2.2.1).bind fun r6 =>
 some r6
 else
 some false).bind fun c7 =>
 some c7
def C265 : FnSpec := { ps := [.val TGKeyBook], rs := [.val .bool], fn := fun x => i_IsKeyBook x }
def E265 : Env := { T := [(3, (.int .i64)), (26, (.slice (.int .i64))), (67, TGKeyBook)], G := [(67, C67), (71, C71), (72, C72)], ro := [1], loops := [], joins := [] }
theorem S265 : Sound Tryz.prog 265 C265 := fun_sound (E := E265) ⟨good_T (by kernel_rfl), (good_cons S67 ⟨_, Tryz.func67, by kernel_rfl, by kernel_rfl⟩ (good_cons S71 ⟨_, Tryz.func71, by kernel_rfl, by kernel_rfl⟩ (good_cons S72 ⟨_, Tryz.func72, by kernel_rfl, by kernel_rfl⟩ good_nil))), mixedOk, ins_nil⟩ Tryz.func265 rfl fun _ => by kernel_rfl
def C225 : FnSpec := { ps := [.own (.slice (.int .i64))], rs := [], fn := fun x => sortIntF x }
theorem S225 : Sound Tryz.prog 225 C225 := sortIntSound
def i_usePage (p_b : GKeyBook) (p_page : Int) : Option (GKeyBook) :=
 (slices_Clone_int p_b.2.2.1).bind fun r1 =>
 bif decide (List.length r1 + List.length [p_page] ≤ lim) then
 (sortIntF (r1 ++ [p_page])).bind fun r2 =>
 some (p_b.1, p_b.2.1, r2, ())
 else
 none
def C307 : FnSpec := { ps := [.val TGKeyBook, .val (.int .i64)], rs := [.own TGKeyBook], fn := fun x => i_usePage x.1 x.2 }
def E307 : Env := { T := [(3, (.int .i64)), (26, (.slice (.int .i64))), (67, TGKeyBook)], G := [(196, C196), (225, C225)], ro := [2], loops := [], joins := [] }
theorem S307 : Sound Tryz.prog 307 C307 := fun_sound (E := E307) ⟨good_T (by kernel_rfl), (good_cons S196 ⟨_, Tryz.func196, by kernel_rfl, by kernel_rfl⟩ (good_cons S225 ⟨_, Tryz.func225, by kernel_rfl, by kernel_rfl⟩ good_nil)), mixedOk, ins_nil⟩ Tryz.func307 rfl fun _ => by kernel_rfl
def i_UseNextPage (p_b : GKeyBook) : Option (GKeyBook × Int × Bool) :=
 (i_IsKeyBook p_b).bind fun r1 =>
 (bif (!r1) then
 some true
 else
 some (decide ((p_b.2.2.1.length : Int) = p_b.2.1))).bind fun c2 =>
 bif c2 then
 some ((0, 0, [], ()), 0, false)
 else
 (loopE (fun (st4 : Int × Int × (List Int) × Int) => (
 (bif (decide (st4.2.2.2 < (p_b.2.2.1.length : Int))) then
 (idx p_b.2.2.1 st4.2.2.2).bind fun e5 =>
 some (decide (e5 = st4.2.2.2))
 else
 some false).bind fun c6 =>
 bif c6 then
 some (.inl (st4.1, st4.2.1, st4.2.2.1, (w64 (st4.2.2.2 + 1))))
 else
 some (.inr (st4.1, st4.2.1, st4.2.2.1, st4.2.2.2)) : Option ((Int × Int × (List Int) × Int) ⊕ ((Int × Int × (List Int) × Int))))) (0, 0, [], 0)).bind fun o7 =>
 (i_usePage p_b o7.2.2.2).bind fun r8 =>
 some (r8, o7.2.2.2, true)
def C266 : FnSpec := { ps := [.val TGKeyBook], rs := [.own TGKeyBook, .val (.int .i64), .val .bool], fn := fun x => i_UseNextPage x }
def E266 : Env := { T := [(3, (.int .i64)), (26, (.slice (.int .i64))), (67, TGKeyBook)], G := [(265, C265), (307, C307)], ro := [1], loops := [(4, { keep := [1], live := [.bx 2 32 [.pv (.int .i64), .pv (.int .i64), .own 300034 (.int .i64) true], .tv 5 (.int .i64)], outs := [(.exit 0, [.bx 2 32 [.pv (.int .i64), .pv (.int .i64), .own 300034 (.int .i64) true], .tv 5 (.int .i64)])] })], joins := [] }
theorem S266 : Sound Tryz.prog 266 C266 := fun_sound (E := E266) ⟨good_T (by kernel_rfl), (good_cons S265 ⟨_, Tryz.func265, by kernel_rfl, by kernel_rfl⟩ (good_cons S307 ⟨_, Tryz.func307, by kernel_rfl, by kernel_rfl⟩ good_nil)), mixedOk, ins_nil⟩ Tryz.func266 rfl fun _ => by kernel_rfl
def i_UseForLength (p_b : GKeyBook) (p_n : Int) : Option (GKeyBook × (List Int) × Bool) :=
 (i_IsKeyBook p_b).bind fun r1 =>
 (bif (!r1) then
 some true
 else
 (i_within p_n 0 1200).bind fun r2 =>
 some (!r2)).bind fun c3 =>
 bif c3 then
 some ((0, 0, [], ()), [], false)
 else
 (slices_Clone_int p_b.2.2.1).bind fun r4 =>
 (loopE (fun (st6 : Int × Int × (List Int) × Int × Int × (List Int) × (List Int) × Int) => (
 bif (decide (st6.2.2.2.2.2.2.2 < (w64 (Int.tdiv (w64 ((w64 (p_n + 20)) - 1)) 20)))) then
 (i_UseNextPage (st6.1, st6.2.1, st6.2.2.1, ())).bind fun r7 =>
 bif (!r7.2.2) then
 some (.inr (.inr (0, 0, [], [], false)))
 else
 bif decide (List.length st6.2.2.2.2.2.2.1 + List.length [r7.2.1] ≤ lim) then
 some (.inl (r7.1.1, r7.1.2.1, r7.1.2.2.1, st6.2.2.2.1, st6.2.2.2.2.1, st6.2.2.2.2.2.1, (st6.2.2.2.2.2.2.1 ++ [r7.2.1]), (w64 (st6.2.2.2.2.2.2.2 + 1))))
 else
 none
 else
 some (.inr (.inl (st6.1, st6.2.1, st6.2.2.1, st6.2.2.2.1, st6.2.2.2.2.1, st6.2.2.2.2.2.1, st6.2.2.2.2.2.2.1))) : Option ((Int × Int × (List Int) × Int × Int × (List Int) × (List Int) × Int) ⊕ ((Int × Int × (List Int) × Int × Int × (List Int) × (List Int)) ⊕ (Int × Int × (List Int) × (List Int) × Bool))))) (p_b.1, p_b.2.1, r4, 0, 0, [], [], 0)).bind fun o8 =>
 match o8 with
 | .inl x9 =>
  some ((x9.1, x9.2.1, x9.2.2.1, ()), x9.2.2.2.2.2.2, true)
 | .inr y10 =>
  some ((y10.1, y10.2.1, y10.2.2.1, ()), y10.2.2.2.1, y10.2.2.2.2)
def C204 : FnSpec := { ps := [.val TGKeyBook, .val (.int .i64)], rs := [.own TGKeyBook, .own (.slice (.int .i64)), .val .bool], fn := fun x => i_UseForLength x.1 x.2 }
def E204 : Env := { T := [(26, (.slice (.int .i64))), (67, TGKeyBook)], G := [(67, C67), (196, C196), (265, C265), (266, C266)], ro := [], loops := [(6, { keep := [27], live := [.bx 2 32 [.pv (.int .i64), .pv (.int .i64), .own 352 (.int .i64) true], .bx 4 64 [.pv (.int .i64), .pv (.int .i64), .own 300066 (.int .i64) true], .own 7 [] 200007 (.int .i64) true, .tv 28 (.int .i64)], outs := [(.exit 0, [.bx 2 32 [.pv (.int .i64), .pv (.int .i64), .own 352 (.int .i64) true], .bx 4 64 [.pv (.int .i64), .pv (.int .i64), .own 300066 (.int .i64) true], .own 7 [] 200007 (.int .i64) true]), (.ret, [.bx 4 64 [.pv (.int .i64), .pv (.int .i64), .own 300066 (.int .i64) true], .own 5 [] 200005 (.int .i64) true, .tv 6 .bool])] })], joins := [] }
theorem S204 : Sound Tryz.prog 204 C204 := fun_sound (E := E204) ⟨good_T (by kernel_rfl), (good_cons S67 ⟨_, Tryz.func67, by kernel_rfl, by kernel_rfl⟩ (good_cons S196 ⟨_, Tryz.func196, by kernel_rfl, by kernel_rfl⟩ (good_cons S265 ⟨_, Tryz.func265, by kernel_rfl, by kernel_rfl⟩ (good_cons S266 ⟨_, Tryz.func266, by kernel_rfl, by kernel_rfl⟩ good_nil)))), mixedOk, ins_nil⟩ Tryz.func204 rfl fun _ => by kernel_rfl
def i_shifted (p_signals : List Int) (p_numbers : List Int) (p_by : Int) : Option ((List Int)) :=
 bif decide (0 ≤ (p_signals.length : Int)) && decide ((p_signals.length : Int) ≤ (p_signals.length : Int)) && decide ((p_signals.length : Int) ≤ lim) then
 (loopE (fun (st2 : (List Int) × Int) => (
 bif (decide (st2.2 < (p_signals.length : Int))) then
 (idx p_signals st2.2).bind fun e3 =>
 (idx p_numbers st2.2).bind fun e4 =>
 bif decide (0 ≤ st2.2) && decide (st2.2 < (st2.1.length : Int)) then
 some (.inl ((st2.1.set (Int.toNat st2.2) (w64 ((Int.tmod (w64 ((w64 ((w64 (e3 - 1)) + (w64 (p_by * e4)))) + 60)) 60) + 1))), (w64 (st2.2 + 1))))
 else
 none
 else
 some (.inr st2.1) : Option (((List Int) × Int) ⊕ ((List Int))))) ((List.replicate (Int.toNat (p_signals.length : Int)) (0 : Int)), 0)).bind fun o5 =>
 some o5
 else
 none
def C205 : FnSpec := { ps := [.val (.slice (.int .i64)), .val (.slice (.int .i64)), .val (.int .i64)], rs := [.own (.slice (.int .i64))], fn := fun x => i_shifted x.1 x.2.1 x.2.2 }
def E205 : Env := { T := [(3, (.int .i64)), (26, (.slice (.int .i64)))], G := [], ro := [], loops := [(3, { keep := [1, 2, 13, 14], live := [.own 7 [] 192 (.int .i64) true, .tv 15 (.int .i64)], outs := [(.exit 0, [.own 7 [] 192 (.int .i64) true])] })], joins := [] }
theorem S205 : Sound Tryz.prog 205 C205 := fun_sound (E := E205) ⟨good_T (by kernel_rfl), good_nil, mixedOk, ins_nil⟩ Tryz.func205 rfl fun _ => by kernel_rfl
def i_mixOf (p_keys : List Int) : Option (Int) :=
 (slices_Clone_int p_keys).bind fun r1 =>
 bif decide (List.length r1 + List.length [3, 7] ≤ lim) then
 (loopE (fun (st3 : Int × (List Int) × Int) => (
 bif (decide (st3.2.2 < ((r1 ++ [3, 7]).length : Int))) then
 bif decide (0 ≤ st3.2.2) && decide (st3.2.2 < (st3.2.1.length : Int)) then
 (st3.2.1[(Int.toNat st3.2.2)]?).bind fun e4 =>
 some (.inl ((Int.tmod (w64 ((Int.tmod (w64 ((w64 ((w64 (19 * st3.1)) + e4)) + 23)) 1000003) * (w64 ((w64 (Int.tdiv (Int.tmod (w64 ((w64 ((w64 (19 * st3.1)) + e4)) + 23)) 1000003) 16)) + 11)))) 1000003), st3.2.1, (w64 (st3.2.2 + 1))))
 else
 none
 else
 some (.inr st3.1) : Option ((Int × (List Int) × Int) ⊕ (Int)))) ((w64 (6907 + (p_keys.length : Int))), (r1 ++ [3, 7]), 0)).bind fun o5 =>
 some o5
 else
 none
def C308 : FnSpec := { ps := [.val (.slice (.int .i64))], rs := [.val (.int .i64)], fn := fun x => i_mixOf x }
def E308 : Env := { T := [(3, (.int .i64)), (26, (.slice (.int .i64)))], G := [(196, C196)], ro := [], loops := [(3, { keep := [13], live := [.tv 3 (.int .i64), .own 12 [] 160 (.int .i64) true, .tv 14 (.int .i64)], outs := [(.exit 0, [.tv 3 (.int .i64)])] })], joins := [] }
theorem S308 : Sound Tryz.prog 308 C308 := fun_sound (E := E308) ⟨good_T (by kernel_rfl), (good_cons S196 ⟨_, Tryz.func196, by kernel_rfl, by kernel_rfl⟩ good_nil), mixedOk, ins_nil⟩ Tryz.func308 rfl fun _ => by kernel_rfl
def i_pageOf (p_b : GKeyBook) (p_page : Int) : Option ((List Int)) :=
 bif decide (0 ≤ 20) && decide (20 ≤ 20) && decide (20 ≤ lim) then
 (loopE (fun (st2 : (List Int) × Int) => (
 bif (decide (st2.2 < ((List.replicate (Int.toNat 20) (0 : Int)).length : Int))) then
 (i_mixOf [p_b.1, p_page, st2.2]).bind fun r3 =>
 bif decide (0 ≤ st2.2) && decide (st2.2 < (st2.1.length : Int)) then
 some (.inl ((st2.1.set (Int.toNat st2.2) (Int.tmod r3 60)), (w64 (st2.2 + 1))))
 else
 none
 else
 some (.inr st2.1) : Option (((List Int) × Int) ⊕ ((List Int))))) ((List.replicate (Int.toNat 20) (0 : Int)), 0)).bind fun o4 =>
 some o4
 else
 none
def C267 : FnSpec := { ps := [.val TGKeyBook, .val (.int .i64)], rs := [.own (.slice (.int .i64))], fn := fun x => i_pageOf x.1 x.2 }
def E267 : Env := { T := [(3, (.int .i64)), (26, (.slice (.int .i64))), (67, TGKeyBook)], G := [(308, C308)], ro := [2], loops := [(3, { keep := [1, 2, 9], live := [.own 5 [] 112 (.int .i64) true, .tv 10 (.int .i64)], outs := [(.exit 0, [.own 5 [] 112 (.int .i64) true])] })], joins := [] }
theorem S267 : Sound Tryz.prog 267 C267 := fun_sound (E := E267) ⟨good_T (by kernel_rfl), (good_cons S308 ⟨_, Tryz.func308, by kernel_rfl, by kernel_rfl⟩ good_nil), mixedOk, ins_nil⟩ Tryz.func267 rfl fun _ => by kernel_rfl
def i_numbersOf (p_b : GKeyBook) (p_pages : List Int) : Option ((List Int)) :=
 (loopE (fun (st2 : (List Int) × Int) => (
 bif (decide (st2.2 < (p_pages.length : Int))) then
 (idx p_pages st2.2).bind fun e3 =>
 (i_pageOf p_b e3).bind fun r4 =>
 bif decide (List.length st2.1 + List.length r4 ≤ lim) then
 some (.inl ((st2.1 ++ r4), (w64 (st2.2 + 1))))
 else
 none
 else
 some (.inr st2.1) : Option (((List Int) × Int) ⊕ ((List Int))))) ([], 0)).bind fun o5 =>
 some o5
def C206 : FnSpec := { ps := [.val TGKeyBook, .val (.slice (.int .i64))], rs := [.own (.slice (.int .i64))], fn := fun x => i_numbersOf x.1 x.2 }
def E206 : Env := { T := [(3, (.int .i64)), (26, (.slice (.int .i64))), (67, TGKeyBook)], G := [(267, C267)], ro := [2], loops := [(3, { keep := [2, 8, 9], live := [.own 5 [] 200005 (.int .i64) true, .tv 10 (.int .i64)], outs := [(.exit 0, [.own 5 [] 200005 (.int .i64) true])] })], joins := [] }
theorem S206 : Sound Tryz.prog 206 C206 := fun_sound (E := E206) ⟨good_T (by kernel_rfl), (good_cons S267 ⟨_, Tryz.func267, by kernel_rfl, by kernel_rfl⟩ good_nil), mixedOk, ins_nil⟩ Tryz.func206 rfl fun _ => by kernel_rfl
def i_HideMessage (p_b : GKeyBook) (p_signals : List Int) : Option (GKeyBook × GSecret × Bool) :=
 (bif (decide (60 < (p_signals.length : Int))) then
 some true
 else
 (i_allWithin p_signals 1 60).bind fun r1 =>
 some (!r1)).bind fun c2 =>
 bif c2 then
 some ((0, 0, [], ()), ([], [], ()), false)
 else
 (i_UseForLength p_b (p_signals.length : Int)).bind fun r3 =>
 bif (!r3.2.2) then
 some ((0, 0, [], ()), ([], [], ()), false)
 else
 (i_numbersOf p_b r3.2.1).bind fun r4 =>
 (i_shifted p_signals r4 1).bind fun r5 =>
 some (r3.1, (r3.2.1, r5, ()), true)
def C148 : FnSpec := { ps := [.val TGKeyBook, .val (.slice (.int .i64))], rs := [.own TGKeyBook, .own TGSecret, .val .bool], fn := fun x => i_HideMessage x.1 x.2 }
def E148 : Env := { T := [(26, (.slice (.int .i64))), (67, TGKeyBook), (165, TGSecret)], G := [(71, C71), (204, C204), (205, C205), (206, C206)], ro := [2], loops := [], joins := [], hoist := [(6, [1])], astore := [(4, 64)] }
theorem S148 : Sound Tryz.prog 148 C148 := fun_sound (E := E148) ⟨good_T (by kernel_rfl), (good_cons S71 ⟨_, Tryz.func71, by kernel_rfl, by kernel_rfl⟩ (good_cons S204 ⟨_, Tryz.func204, by kernel_rfl, by kernel_rfl⟩ (good_cons S205 ⟨_, Tryz.func205, by kernel_rfl, by kernel_rfl⟩ (good_cons S206 ⟨_, Tryz.func206, by kernel_rfl, by kernel_rfl⟩ good_nil)))), mixedOk, ins_nil⟩ Tryz.func148 rfl fun _ => by kernel_rfl
def i_neededPages (p_n : Int) : Option (Int) :=
 some (w64 (Int.tdiv (w64 ((w64 (p_n + 20)) - 1)) 20))
def C268 : FnSpec := { ps := [.val (.int .i64)], rs := [.val (.int .i64)], fn := fun x => i_neededPages x }
def E268 : Env := { T := [], G := [], ro := [], loops := [], joins := [] }
theorem S268 : Sound Tryz.prog 268 C268 := fun_sound (E := E268) ⟨good_T (by kernel_rfl), good_nil, mixedOk, ins_nil⟩ Tryz.func268 rfl fun _ => by kernel_rfl
def i_IsSecret (p_x : GSecret) : Option (Bool) :=
 (bif (decide (60 < (p_x.2.1.length : Int))) then
 some true
 else
 (i_allWithin p_x.2.1 1 60).bind fun r1 =>
 some (!r1)).bind fun c2 =>
 (bif c2 then
 some true
 else
 (i_neededPages (p_x.2.1.length : Int)).bind fun r3 =>
 some (!decide ((p_x.1.length : Int) = r3))).bind fun c4 =>
 (bif c4 then
 some true
 else
 (i_allWithin p_x.1 0 59).bind fun r5 =>
 some (!r5)).bind fun c6 =>
 bif c6 then
 some false
 else
 (slices_Clone_int p_x.1).bind fun r7 =>
 (sortIntF r7).bind fun r8 =>
 (i_increasing r8).bind fun r9 =>
 some r9
def C207 : FnSpec := { ps := [.val TGSecret], rs := [.val .bool], fn := fun x => i_IsSecret x }
def E207 : Env := { T := [(26, (.slice (.int .i64))), (165, TGSecret)], G := [(71, C71), (72, C72), (196, C196), (225, C225), (268, C268)], ro := [1], loops := [], joins := [] }
theorem S207 : Sound Tryz.prog 207 C207 := fun_sound (E := E207) ⟨good_T (by kernel_rfl), (good_cons S71 ⟨_, Tryz.func71, by kernel_rfl, by kernel_rfl⟩ (good_cons S72 ⟨_, Tryz.func72, by kernel_rfl, by kernel_rfl⟩ (good_cons S196 ⟨_, Tryz.func196, by kernel_rfl, by kernel_rfl⟩ (good_cons S225 ⟨_, Tryz.func225, by kernel_rfl, by kernel_rfl⟩ (good_cons S268 ⟨_, Tryz.func268, by kernel_rfl, by kernel_rfl⟩ good_nil))))), mixedOk, ins_nil⟩ Tryz.func207 rfl fun _ => by kernel_rfl
def i_SecretText (p_x : GSecret) : Option (Bytes × Bool) :=
 (i_IsSecret p_x).bind fun r1 =>
 bif (!r1) then
 some ([], false)
 else
 (i_joinNumbers p_x.1 ([43] : Bytes)).bind fun r2 =>
 bif decide (List.length r2 + List.length ([58] : Bytes) ≤ lim) then
 (i_joinNumbers p_x.2.1 ([32] : Bytes)).bind fun r3 =>
 bif decide (List.length (r2 ++ ([58] : Bytes)) + List.length r3 ≤ lim) then
 some (((r2 ++ ([58] : Bytes)) ++ r3), true)
 else
 none
 else
 none
def C149 : FnSpec := { ps := [.val TGSecret], rs := [.val .str, .val .bool], fn := fun x => i_SecretText x }
def E149 : Env := { T := [(26, (.slice (.int .i64))), (165, TGSecret)], G := [(146, C146), (207, C207)], ro := [1], loops := [], joins := [] }
theorem S149 : Sound Tryz.prog 149 C149 := fun_sound (E := E149) ⟨good_T (by kernel_rfl), (good_cons S146 ⟨_, Tryz.func146, by kernel_rfl, by kernel_rfl⟩ (good_cons S207 ⟨_, Tryz.func207, by kernel_rfl, by kernel_rfl⟩ good_nil)), mixedOk, ins_nil⟩ Tryz.func149 rfl fun _ => by kernel_rfl
def i_scriptState_bookLine (p_s : GscriptStateR) (p_name : Bytes) (p_letters : Bytes) (p_n : List Int) : Option (GscriptStateR × Bytes × Bool) :=
 bif (decide (p_name = w_phrase)) then
 (i_AddPhrase p_s.2.2.1 (p_letters, p_n, ())).bind fun r1 =>
 bif (!r1.2) then
 some (p_s, [], false)
 else
 some ((p_s.1, p_s.2.1, r1.1, p_s.2.2.2), ([111, 107] : Bytes), true)
 else
 bif (decide (p_name = w_code)) then
 (i_EncodeMessage p_s.2.2.1 p_letters).bind fun r2 =>
 (i_joinNumbers r2.1 ([32] : Bytes)).bind fun r3 =>
 some (p_s, r3, r2.2)
 else
 bif (decide (p_name = w_read)) then
 (i_ReadMessage p_s.2.2.1 p_n).bind fun r4 =>
 some (p_s, r4.1, r4.2)
 else
 bif (decide (p_name = w_hide)) then
 (i_HideMessage p_s.2.2.2.1 p_n).bind fun r5 =>
 bif (!r5.2.2) then
 some (p_s, [], false)
 else
 (i_SecretText r5.2.1).bind fun r6 =>
 some ((p_s.1, p_s.2.1, p_s.2.2.1, r5.1, p_s.2.2.2.2), r6.1, r6.2)
 else
 some (p_s, ([111, 107] : Bytes), true)
def C110 : FnSpec := { ps := [.obox TGscriptStateR, .val .str, .val .str, .val (.slice (.int .i64))], rs := [.val .str, .val .bool], fn := fun x => i_scriptState_bookLine x.1 x.2.1 x.2.2.1 x.2.2.2 }
def E110 : Env := { T := [(38, TGBook), (67, TGKeyBook), (71, TGscriptStateR), (108, TGPhrase), (165, TGSecret)], G := [(144, C144), (145, C145), (146, C146), (147, C147), (148, C148), (149, C149)], ro := [], loops := [], joins := [] }
theorem S110 : Sound Tryz.prog 110 C110 := fun_sound_obox (E := E110) ⟨good_T (by kernel_rfl), (good_cons S144 ⟨_, Tryz.func144, by kernel_rfl, by kernel_rfl⟩ (good_cons S145 ⟨_, Tryz.func145, by kernel_rfl, by kernel_rfl⟩ (good_cons S146 ⟨_, Tryz.func146, by kernel_rfl, by kernel_rfl⟩ (good_cons S147 ⟨_, Tryz.func147, by kernel_rfl, by kernel_rfl⟩ (good_cons S148 ⟨_, Tryz.func148, by kernel_rfl, by kernel_rfl⟩ (good_cons S149 ⟨_, Tryz.func149, by kernel_rfl, by kernel_rfl⟩ good_nil)))))), mixedOk, ins_nil⟩ Tryz.func110 rfl rfl fun _ => by kernel_rfl
def i_AreTickets (p_l : List GTicket) : Option (Bool) :=
 bif (decide (20 < (p_l.length : Int))) then
 some false
 else
 (loopE (fun (st2 : Int) => (
 bif (decide (st2 < (p_l.length : Int))) then
 (idx p_l st2).bind fun e3 =>
 (i_within e3.1 1 999).bind fun r4 =>
 (bif (!r4) then
 some true
 else
 (i_within e3.2.1 1 9).bind fun r5 =>
 some (!r5)).bind fun c6 =>
 (bif c6 then
 some true
 else
 (i_allWithin e3.2.2.1 0 (w64 (e3.2.1 - 1))).bind fun r7 =>
 some (!r7)).bind fun c8 =>
 (bif c8 then
 some true
 else
 (i_increasing e3.2.2.1).bind fun r9 =>
 some (!r9)).bind fun c10 =>
 (bif c10 then
 some true
 else
 (bif (decide (0 < st2)) then
 (idx p_l (w64 (st2 - 1))).bind fun e11 =>
 some (decide (e3.1 ≤ e11.1))
 else
 some false).bind fun c12 =>
 some c12).bind fun c13 =>
 bif c13 then
 some (.inr (.inr false))
 else
 (bif ((decide ((e3.2.2.1.length : Int) = e3.2.1)) != (decide (e3.2.2.2.1 = 1))) then
 some true
 else
 (i_within e3.2.2.2.1 0 2).bind fun r14 =>
 some (!r14)).bind fun c15 =>
 bif c15 then
 some (.inr (.inr false))
 else
 some (.inl (w64 (st2 + 1)))
 else
 some (.inr (.inl ())) : Option ((Int) ⊕ (Unit ⊕ Bool)))) 0).bind fun o16 =>
 match o16 with
 | .inl _ =>
  some true
 | .inr y18 =>
  some y18
def C45 : FnSpec := { ps := [.val (.slice TGTicket)], rs := [.val .bool], fn := fun x => i_AreTickets x }
def E45 : Env := { T := [(3, (.int .i64)), (4, .bool), (26, (.slice (.int .i64))), (31, (.slice TGTicket)), (88, TGTicket)], G := [(67, C67), (71, C71), (72, C72)], ro := [], loops := [(4, { keep := [0, 9, 10], live := [.tv 11 (.int .i64)], outs := [(.exit 0, []), (.ret, [.tv 2 .bool])] })], joins := [] }
theorem S45 : Sound Tryz.prog 45 C45 := fun_sound (E := E45) ⟨good_T (by kernel_rfl), (good_cons S67 ⟨_, Tryz.func67, by kernel_rfl, by kernel_rfl⟩ (good_cons S71 ⟨_, Tryz.func71, by kernel_rfl, by kernel_rfl⟩ (good_cons S72 ⟨_, Tryz.func72, by kernel_rfl, by kernel_rfl⟩ good_nil))), mixedOk, ins_nil⟩ Tryz.func45 rfl fun _ => by kernel_rfl
def i_ticketIndex_1 (p_x : GTicket) (p_a1 : Int) : Option (Bool) :=
 some (decide (p_x.1 = p_a1))
def C273 : FnSpec := { ps := [.val TGTicket, .rp (.int .i64)], rs := [.val .bool], fn := fun x => i_ticketIndex_1 x.1 x.2 }
def E273 : Env := { T := [(3, (.int .i64)), (88, TGTicket)], G := [], ro := [2], loops := [], joins := [] }
theorem S273 : Sound Tryz.prog 273 C273 := fun_sound (E := E273) ⟨good_T (by kernel_rfl), good_nil, mixedOk, ins_nil⟩ Tryz.func273 rfl fun _ => by kernel_rfl
def slices_IndexFunc_Ticket_273 (p_s : List GTicket) (p_f : Int × Unit) : Option (Int) :=
 (loopE (fun (st2 : Int) => (
 bif (decide (st2 < (p_s.length : Int))) then
 (idx p_s st2).bind fun e3 =>
 (i_ticketIndex_1 e3 p_f.1).bind fun r4 =>
 bif r4 then
 some (.inr (.inr st2))
 else
 some (.inl (w64 (st2 + 1)))
 else
 some (.inr (.inl ())) : Option ((Int) ⊕ (Unit ⊕ Int)))) 0).bind fun o5 =>
 match o5 with
 | .inl _ =>
  some (-1)
 | .inr y7 =>
  some y7
def C272_273 : FnSpec := { ps := [.val (.slice TGTicket), .fn 273 [(.int .i64)]], rs := [.val (.int .i64)], fn := fun x => slices_IndexFunc_Ticket_273 x.1 x.2 }
def E272_273 : Env := { T := [(31, (.slice TGTicket)), (88, TGTicket)], G := [(273, C273)], ro := [], loops := [(2, { keep := [0, 1, 7], live := [.tv 8 (.int .i64)], outs := [(.exit 0, []), (.ret, [.tv 4 (.int .i64)])] })], joins := [] }
theorem S272_273 : Sound Tryz.prog 272 C272_273 := fun_sound (E := E272_273) ⟨good_T (by kernel_rfl), (good_cons S273 ⟨_, Tryz.func273, by kernel_rfl, by kernel_rfl⟩ good_nil), mixedOk, ins_nil⟩ Tryz.func272 rfl fun _ => by kernel_rfl
def i_ticketIndex (p_l : List GTicket) (p_message : Int) : Option (Int) :=
 (slices_IndexFunc_Ticket_273 p_l (p_message, ())).bind fun r1 =>
 some r1
def C209 : FnSpec := { ps := [.val (.slice TGTicket), .val (.int .i64)], rs := [.val (.int .i64)], fn := fun x => i_ticketIndex x.1 x.2 }
def E209 : Env := { T := [(3, (.int .i64))], G := [(272, C272_273)], ro := [3], loops := [], joins := [] }
theorem S209 : Sound Tryz.prog 209 C209 := fun_sound (E := E209) ⟨good_T (by kernel_rfl), (good_cons S272_273 ⟨_, Tryz.func272, by kernel_rfl, by kernel_rfl⟩ good_nil), mixedOk, ins_nil⟩ Tryz.func209 rfl fun _ => by kernel_rfl
def i_cloneTickets (p_l : List GTicket) : Option ((List GTicket)) :=
 bif decide (0 ≤ (p_l.length : Int)) && decide ((p_l.length : Int) ≤ (p_l.length : Int)) && decide ((p_l.length : Int) ≤ lim) then
 (loopE (fun (st2 : (List GTicket) × Int) => (
 bif (decide (st2.2 < (p_l.length : Int))) then
 (idx p_l st2.2).bind fun e3 =>
 (slices_Clone_int e3.2.2.1).bind fun r4 =>
 bif decide (0 ≤ st2.2) && decide (st2.2 < (st2.1.length : Int)) then
 some (.inl ((st2.1.set (Int.toNat st2.2) (e3.1, e3.2.1, r4, e3.2.2.2)), (w64 (st2.2 + 1))))
 else
 none
 else
 some (.inr st2.1) : Option (((List GTicket) × Int) ⊕ ((List GTicket))))) ((List.replicate (Int.toNat (p_l.length : Int)) ((0, (0, ([], (0, ())))) : GTicket)), 0)).bind fun o5 =>
 some o5
 else
 none
def C269 : FnSpec := { ps := [.val (.slice TGTicket)], rs := [.own (.slice TGTicket)], fn := fun x => i_cloneTickets x }
def E269 : Env := { T := [(26, (.slice (.int .i64))), (31, (.slice TGTicket)), (88, TGTicket)], G := [(196, C196)], ro := [], loops := [(3, { keep := [9, 10], live := [.own 3 [] 128 TGTicket true, .tv 11 (.int .i64)], outs := [(.exit 0, [.own 3 [] 128 TGTicket true])] })], joins := [], mv := true }
theorem S269 : Sound Tryz.prog 269 C269 := fun_sound (E := E269) ⟨good_T (by kernel_rfl), (good_cons S196 ⟨_, Tryz.func196, by kernel_rfl, by kernel_rfl⟩ good_nil), mixedOk, ins_nil⟩ Tryz.func269 rfl fun _ => by kernel_rfl
def slices_Index_int (p_s : List Int) (p_v : Int) : Option (Int) :=
 (loopE (fun (st2 : Int) => (
 bif (decide (st2 < (p_s.length : Int))) then
 (idx p_s st2).bind fun e3 =>
 bif (decide (p_v = e3)) then
 some (.inr (.inr st2))
 else
 some (.inl (w64 (st2 + 1)))
 else
 some (.inr (.inl ())) : Option ((Int) ⊕ (Unit ⊕ Int)))) 0).bind fun o4 =>
 match o4 with
 | .inl _ =>
  some (-1)
 | .inr y6 =>
  some y6
def C311 : FnSpec := { ps := [.val (.slice (.int .i64)), .val (.int .i64)], rs := [.val (.int .i64)], fn := fun x => slices_Index_int x.1 x.2 }
def E311 : Env := { T := [(3, (.int .i64)), (26, (.slice (.int .i64)))], G := [], ro := [], loops := [(2, { keep := [0, 1, 7], live := [.tv 8 (.int .i64)], outs := [(.exit 0, []), (.ret, [.tv 4 (.int .i64)])] })], joins := [] }
theorem S311 : Sound Tryz.prog 311 C311 := fun_sound (E := E311) ⟨good_T (by kernel_rfl), good_nil, mixedOk, ins_nil⟩ Tryz.func311 rfl fun _ => by kernel_rfl
def slices_Contains_int (p_s : List Int) (p_v : Int) : Option (Bool) :=
 (slices_Index_int p_s p_v).bind fun r1 =>
 some (decide (0 ≤ r1))
def C271 : FnSpec := { ps := [.val (.slice (.int .i64)), .val (.int .i64)], rs := [.val .bool], fn := fun x => slices_Contains_int x.1 x.2 }
def E271 : Env := { T := [], G := [(311, C311)], ro := [], loops := [], joins := [] }
theorem S271 : Sound Tryz.prog 271 C271 := fun_sound (E := E271) ⟨good_T (by kernel_rfl), (good_cons S311 ⟨_, Tryz.func311, by kernel_rfl, by kernel_rfl⟩ good_nil), mixedOk, ins_nil⟩ Tryz.func271 rfl fun _ => by kernel_rfl
def i_makeMove (p_l : List GTicket) (p_m : GTower) : Option ((List GTicket) × Bool) :=
 (i_cloneTickets p_l).bind fun r1 =>
 (i_ticketIndex r1 p_m.2.1).bind fun r2 =>
 (bif (decide (p_m.1 = 1)) then
 some (decide (r2 < 0))
 else
 some false).bind fun c3 =>
 bif c3 then
 (loopE (fun (st5 : (List GTicket) × Int) => (
 (bif (decide (st5.2 < (st5.1.length : Int))) then
 bif decide (0 ≤ st5.2) && decide (st5.2 < (st5.1.length : Int)) then
 (st5.1[(Int.toNat st5.2)]?).bind fun e6 =>
 some (decide (e6.1 < p_m.2.1))
 else
 none
 else
 some false).bind fun c7 =>
 bif c7 then
 some (.inl (st5.1, (w64 (st5.2 + 1))))
 else
 some (.inr (st5.1, st5.2)) : Option (((List GTicket) × Int) ⊕ (((List GTicket) × Int))))) (r1, 0)).bind fun o8 =>
 bif decide (0 ≤ o8.2) && decide (o8.2 ≤ (o8.1.length : Int)) && decide (List.length o8.1 ≤ 999999) then
 (i_AreTickets (insV o8.1 o8.2 (p_m.2.1, p_m.2.2.1, [], 0, ()))).bind fun r9 =>
 bif (!r9) then
 some ([], false)
 else
 some ((insV o8.1 o8.2 (p_m.2.1, p_m.2.2.1, [], 0, ())), true)
 else
 none
 else
 (bif (decide (p_m.1 = 2)) then
 some (decide (0 ≤ r2))
 else
 some false).bind fun c10 =>
 (bif c10 then
 bif decide (0 ≤ r2) && decide (r2 < (r1.length : Int)) then
 (r1[(Int.toNat r2)]?).bind fun e11 =>
 some (decide (e11.2.2.2.1 = 0))
 else
 none
 else
 some false).bind fun c12 =>
 (bif c12 then
 bif decide (0 ≤ r2) && decide (r2 < (r1.length : Int)) then
 (r1[(Int.toNat r2)]?).bind fun e13 =>
 (i_within p_m.2.2.1 0 (w64 (e13.2.1 - 1))).bind fun r14 =>
 some r14
 else
 none
 else
 some false).bind fun c15 =>
 bif c15 then
 bif decide (0 ≤ r2) && decide (r2 < (r1.length : Int)) then
 (r1[(Int.toNat r2)]?).bind fun e16 =>
 (slices_Contains_int e16.2.2.1 p_m.2.2.1).bind fun r17 =>
 bif (!r17) then
 (r1[(Int.toNat r2)]?).bind fun e18 =>
 bif decide (List.length e18.2.2.1 + List.length [p_m.2.2.1] ≤ lim) then
 bothSame (
 bif Nat.beq (Int.toNat r2) (Int.toNat r2) then
 ((r1.set (Int.toNat r2) (e18.1, e18.2.1, (e18.2.2.1 ++ [p_m.2.2.1]), e18.2.2.2))[(Int.toNat r2)]?).bind fun e19 =>
 (sortIntF e19.2.2.1).bind fun r20 =>
 (((r1.set (Int.toNat r2) (e18.1, e18.2.1, (e18.2.2.1 ++ [p_m.2.2.1]), e18.2.2.2)).set (Int.toNat r2) (e19.1, e19.2.1, r20, e19.2.2.2))[(Int.toNat r2)]?).bind fun e21 =>
 (((r1.set (Int.toNat r2) (e18.1, e18.2.1, (e18.2.2.1 ++ [p_m.2.2.1]), e18.2.2.2)).set (Int.toNat r2) (e19.1, e19.2.1, r20, e19.2.2.2))[(Int.toNat r2)]?).bind fun e22 =>
 bif (decide ((e21.2.2.1.length : Int) = e22.2.1)) then
 (((r1.set (Int.toNat r2) (e18.1, e18.2.1, (e18.2.2.1 ++ [p_m.2.2.1]), e18.2.2.2)).set (Int.toNat r2) (e19.1, e19.2.1, r20, e19.2.2.2))[(Int.toNat r2)]?).bind fun e23 =>
 (i_AreTickets (((r1.set (Int.toNat r2) (e18.1, e18.2.1, (e18.2.2.1 ++ [p_m.2.2.1]), e18.2.2.2)).set (Int.toNat r2) (e19.1, e19.2.1, r20, e19.2.2.2)).set (Int.toNat r2) (e23.1, e23.2.1, e23.2.2.1, 1, ()))).bind fun r24 =>
 bif (!r24) then
 some ([], false)
 else
 some ((((r1.set (Int.toNat r2) (e18.1, e18.2.1, (e18.2.2.1 ++ [p_m.2.2.1]), e18.2.2.2)).set (Int.toNat r2) (e19.1, e19.2.1, r20, e19.2.2.2)).set (Int.toNat r2) (e23.1, e23.2.1, e23.2.2.1, 1, ())), true)
 else
 (i_AreTickets ((r1.set (Int.toNat r2) (e18.1, e18.2.1, (e18.2.2.1 ++ [p_m.2.2.1]), e18.2.2.2)).set (Int.toNat r2) (e19.1, e19.2.1, r20, e19.2.2.2))).bind fun r25 =>
 bif (!r25) then
 some ([], false)
 else
 some (((r1.set (Int.toNat r2) (e18.1, e18.2.1, (e18.2.2.1 ++ [p_m.2.2.1]), e18.2.2.2)).set (Int.toNat r2) (e19.1, e19.2.1, r20, e19.2.2.2)), true)
 else
 none)
 (
 (r1[(Int.toNat r2)]?).bind fun e26 =>
 ((r1.set (Int.toNat r2) (e26.1, e26.2.1, (e18.2.2.1 ++ [p_m.2.2.1]), e26.2.2.2))[(Int.toNat r2)]?).bind fun e27 =>
 (sortIntF e27.2.2.1).bind fun r28 =>
 (((r1.set (Int.toNat r2) (e26.1, e26.2.1, (e18.2.2.1 ++ [p_m.2.2.1]), e26.2.2.2)).set (Int.toNat r2) (e27.1, e27.2.1, r28, e27.2.2.2))[(Int.toNat r2)]?).bind fun e29 =>
 (((r1.set (Int.toNat r2) (e26.1, e26.2.1, (e18.2.2.1 ++ [p_m.2.2.1]), e26.2.2.2)).set (Int.toNat r2) (e27.1, e27.2.1, r28, e27.2.2.2))[(Int.toNat r2)]?).bind fun e30 =>
 bif (decide ((e29.2.2.1.length : Int) = e30.2.1)) then
 (((r1.set (Int.toNat r2) (e26.1, e26.2.1, (e18.2.2.1 ++ [p_m.2.2.1]), e26.2.2.2)).set (Int.toNat r2) (e27.1, e27.2.1, r28, e27.2.2.2))[(Int.toNat r2)]?).bind fun e31 =>
 (i_AreTickets (((r1.set (Int.toNat r2) (e26.1, e26.2.1, (e18.2.2.1 ++ [p_m.2.2.1]), e26.2.2.2)).set (Int.toNat r2) (e27.1, e27.2.1, r28, e27.2.2.2)).set (Int.toNat r2) (e31.1, e31.2.1, e31.2.2.1, 1, ()))).bind fun r32 =>
 bif (!r32) then
 some ([], false)
 else
 some ((((r1.set (Int.toNat r2) (e26.1, e26.2.1, (e18.2.2.1 ++ [p_m.2.2.1]), e26.2.2.2)).set (Int.toNat r2) (e27.1, e27.2.1, r28, e27.2.2.2)).set (Int.toNat r2) (e31.1, e31.2.1, e31.2.2.1, 1, ())), true)
 else
 (i_AreTickets ((r1.set (Int.toNat r2) (e26.1, e26.2.1, (e18.2.2.1 ++ [p_m.2.2.1]), e26.2.2.2)).set (Int.toNat r2) (e27.1, e27.2.1, r28, e27.2.2.2))).bind fun r33 =>
 bif (!r33) then
 some ([], false)
 else
 some (((r1.set (Int.toNat r2) (e26.1, e26.2.1, (e18.2.2.1 ++ [p_m.2.2.1]), e26.2.2.2)).set (Int.toNat r2) (e27.1, e27.2.1, r28, e27.2.2.2)), true))
 else
 none
 else
 (r1[(Int.toNat r2)]?).bind fun e34 =>
 (r1[(Int.toNat r2)]?).bind fun e35 =>
 bif (decide ((e34.2.2.1.length : Int) = e35.2.1)) then
 (r1[(Int.toNat r2)]?).bind fun e36 =>
 (i_AreTickets (r1.set (Int.toNat r2) (e36.1, e36.2.1, e36.2.2.1, 1, ()))).bind fun r37 =>
 bif (!r37) then
 some ([], false)
 else
 some ((r1.set (Int.toNat r2) (e36.1, e36.2.1, e36.2.2.1, 1, ())), true)
 else
 (i_AreTickets r1).bind fun r38 =>
 bif (!r38) then
 some ([], false)
 else
 some (r1, true)
 else
 none
 else
 (bif (decide (p_m.1 = 3)) then
 some (decide (0 ≤ r2))
 else
 some false).bind fun c39 =>
 (bif c39 then
 bif decide (0 ≤ r2) && decide (r2 < (r1.length : Int)) then
 (r1[(Int.toNat r2)]?).bind fun e40 =>
 some (decide (e40.2.2.2.1 = 0))
 else
 none
 else
 some false).bind fun c41 =>
 bif c41 then
 bif decide (0 ≤ r2) && decide (r2 < (r1.length : Int)) then
 (r1[(Int.toNat r2)]?).bind fun e42 =>
 (i_AreTickets (r1.set (Int.toNat r2) (e42.1, e42.2.1, e42.2.2.1, 2, ()))).bind fun r43 =>
 bif (!r43) then
 some ([], false)
 else
 some ((r1.set (Int.toNat r2) (e42.1, e42.2.1, e42.2.2.1, 2, ())), true)
 else
 none
 else
 some ([], false)
def C208 : FnSpec := { ps := [.val (.slice TGTicket), .val TGTower], rs := [.own (.slice TGTicket), .val .bool], fn := fun x => i_makeMove x.1 x.2 }
def E208 : Env := { T := [(3, (.int .i64)), (26, (.slice (.int .i64))), (31, (.slice TGTicket)), (88, TGTicket), (192, TGTower)], G := [(45, C45), (67, C67), (209, C209), (225, C225), (269, C269), (271, C271)], ro := [3], loops := [(6, { keep := [3], live := [.own 6 [] 160 TGTicket true, .tv 7 (.int .i64)], outs := [(.exit 1, [.own 6 [] 160 TGTicket true, .tv 7 (.int .i64)])] })], joins := [], mv := true, ins := [(270, TGTicket)], hoist := [(12, [0])] }
theorem S208 : Sound Tryz.prog 208 C208 := fun_sound (E := E208) ⟨good_T (by kernel_rfl), (good_cons S45 ⟨_, Tryz.func45, by kernel_rfl, by kernel_rfl⟩ (good_cons S67 ⟨_, Tryz.func67, by kernel_rfl, by kernel_rfl⟩ (good_cons S209 ⟨_, Tryz.func209, by kernel_rfl, by kernel_rfl⟩ (good_cons S225 ⟨_, Tryz.func225, by kernel_rfl, by kernel_rfl⟩ (good_cons S269 ⟨_, Tryz.func269, by kernel_rfl, by kernel_rfl⟩ (good_cons S271 ⟨_, Tryz.func271, by kernel_rfl, by kernel_rfl⟩ good_nil)))))), mixedOk, (ins_cons insOk270 ⟨_, Tryz.func270, by kernel_rfl, by kernel_rfl⟩ ins_nil)⟩ Tryz.func208 rfl fun _ => by kernel_rfl
def i_AcceptMessage (p_l : List GTicket) (p_message : Int) (p_parts : Int) : Option ((List GTicket) × Bool) :=
 (i_AreTickets p_l).bind fun r1 =>
 bif (!r1) then
 some ([], false)
 else
 (i_makeMove p_l (1, p_message, p_parts, ())).bind fun r2 =>
 some (r2.1, r2.2)
def C150 : FnSpec := { ps := [.val (.slice TGTicket), .val (.int .i64), .val (.int .i64)], rs := [.own (.slice TGTicket), .val .bool], fn := fun x => i_AcceptMessage x.1 x.2.1 x.2.2 }
def E150 : Env := { T := [(192, TGTower)], G := [(45, C45), (208, C208)], ro := [], loops := [], joins := [] }
theorem S150 : Sound Tryz.prog 150 C150 := fun_sound (E := E150) ⟨good_T (by kernel_rfl), (good_cons S45 ⟨_, Tryz.func45, by kernel_rfl, by kernel_rfl⟩ (good_cons S208 ⟨_, Tryz.func208, by kernel_rfl, by kernel_rfl⟩ good_nil)), mixedOk, ins_nil⟩ Tryz.func150 rfl fun _ => by kernel_rfl
def i_NoteArrival (p_l : List GTicket) (p_message : Int) (p_part : Int) : Option ((List GTicket) × Bool) :=
 (i_AreTickets p_l).bind fun r1 =>
 bif (!r1) then
 some ([], false)
 else
 (i_makeMove p_l (2, p_message, p_part, ())).bind fun r2 =>
 some (r2.1, r2.2)
def C151 : FnSpec := { ps := [.val (.slice TGTicket), .val (.int .i64), .val (.int .i64)], rs := [.own (.slice TGTicket), .val .bool], fn := fun x => i_NoteArrival x.1 x.2.1 x.2.2 }
def E151 : Env := { T := [(192, TGTower)], G := [(45, C45), (208, C208)], ro := [], loops := [], joins := [] }
theorem S151 : Sound Tryz.prog 151 C151 := fun_sound (E := E151) ⟨good_T (by kernel_rfl), (good_cons S45 ⟨_, Tryz.func45, by kernel_rfl, by kernel_rfl⟩ (good_cons S208 ⟨_, Tryz.func208, by kernel_rfl, by kernel_rfl⟩ good_nil)), mixedOk, ins_nil⟩ Tryz.func151 rfl fun _ => by kernel_rfl
def i_GiveUp (p_l : List GTicket) (p_message : Int) : Option ((List GTicket) × Bool) :=
 (i_AreTickets p_l).bind fun r1 =>
 bif (!r1) then
 some ([], false)
 else
 (i_makeMove p_l (3, p_message, 0, ())).bind fun r2 =>
 some (r2.1, r2.2)
def C152 : FnSpec := { ps := [.val (.slice TGTicket), .val (.int .i64)], rs := [.own (.slice TGTicket), .val .bool], fn := fun x => i_GiveUp x.1 x.2 }
def E152 : Env := { T := [(192, TGTower)], G := [(45, C45), (208, C208)], ro := [], loops := [], joins := [] }
theorem S152 : Sound Tryz.prog 152 C152 := fun_sound (E := E152) ⟨good_T (by kernel_rfl), (good_cons S45 ⟨_, Tryz.func45, by kernel_rfl, by kernel_rfl⟩ (good_cons S208 ⟨_, Tryz.func208, by kernel_rfl, by kernel_rfl⟩ good_nil)), mixedOk, ins_nil⟩ Tryz.func152 rfl fun _ => by kernel_rfl
def i_ReceiptText (p_l : List GTicket) (p_message : Int) : Option (Bytes × Bool) :=
 (i_ticketIndex p_l p_message).bind fun r1 =>
 (i_AreTickets p_l).bind fun r2 =>
 (bif (!r2) then
 some true
 else
 some (decide (r1 < 0))).bind fun c3 =>
 bif c3 then
 some ([], false)
 else
 (idx p_l r1).bind fun e4 =>
 (itoaF p_message).bind fun r5 =>
 bif (decide (e4.2.2.2.1 = 1)) then
 bif decide (List.length r5 + List.length ([32, 97, 114, 114, 105, 118, 101, 100] : Bytes) ≤ lim) then
 some ((r5 ++ ([32, 97, 114, 114, 105, 118, 101, 100] : Bytes)), true)
 else
 none
 else
 bif (decide (e4.2.2.2.1 = 0)) then
 bif decide (List.length r5 + List.length ([32, 111, 112, 101, 110, 32] : Bytes) ≤ lim) then
 (i_joinNumbers [(e4.2.2.1.length : Int), e4.2.1] ([47] : Bytes)).bind fun r6 =>
 bif decide (List.length (r5 ++ ([32, 111, 112, 101, 110, 32] : Bytes)) + List.length r6 ≤ lim) then
 some (((r5 ++ ([32, 111, 112, 101, 110, 32] : Bytes)) ++ r6), true)
 else
 none
 else
 none
 else
 bif decide (List.length r5 + List.length ([32, 102, 97, 105, 108, 101, 100, 32] : Bytes) ≤ lim) then
 (i_joinNumbers [(e4.2.2.1.length : Int), e4.2.1] ([47] : Bytes)).bind fun r7 =>
 bif decide (List.length (r5 ++ ([32, 102, 97, 105, 108, 101, 100, 32] : Bytes)) + List.length r7 ≤ lim) then
 some (((r5 ++ ([32, 102, 97, 105, 108, 101, 100, 32] : Bytes)) ++ r7), true)
 else
 none
 else
 none
def C153 : FnSpec := { ps := [.val (.slice TGTicket), .val (.int .i64)], rs := [.val .str, .val .bool], fn := fun x => i_ReceiptText x.1 x.2 }
def E153 : Env := { T := [(3, (.int .i64)), (26, (.slice (.int .i64))), (31, (.slice TGTicket)), (88, TGTicket)], G := [(45, C45), (143, C143), (146, C146), (209, C209)], ro := [], loops := [], joins := [] }
theorem S153 : Sound Tryz.prog 153 C153 := fun_sound (E := E153) ⟨good_T (by kernel_rfl), (good_cons S45 ⟨_, Tryz.func45, by kernel_rfl, by kernel_rfl⟩ (good_cons S143 ⟨_, Tryz.func143, by kernel_rfl, by kernel_rfl⟩ (good_cons S146 ⟨_, Tryz.func146, by kernel_rfl, by kernel_rfl⟩ (good_cons S209 ⟨_, Tryz.func209, by kernel_rfl, by kernel_rfl⟩ good_nil)))), mixedOk, ins_nil⟩ Tryz.func153 rfl fun _ => by kernel_rfl
def i_scriptState_deskLine (p_s : GscriptStateR) (p_name : Bytes) (p_n : List Int) : Option (GscriptStateR × Bytes × Bool) :=
 bif (decide (p_name = w_accept)) then
 (idx p_n 0).bind fun e1 =>
 (idx p_n 1).bind fun e2 =>
 (i_AcceptMessage p_s.2.2.2.2.1 e1 e2).bind fun r3 =>
 bif (!r3.2) then
 some (p_s, [], false)
 else
 some ((p_s.1, p_s.2.1, p_s.2.2.1, p_s.2.2.2.1, r3.1, p_s.2.2.2.2.2), ([111, 107] : Bytes), true)
 else
 bif (decide (p_name = w_arrived)) then
 (idx p_n 0).bind fun e4 =>
 (idx p_n 1).bind fun e5 =>
 (i_NoteArrival p_s.2.2.2.2.1 e4 e5).bind fun r6 =>
 bif (!r6.2) then
 some (p_s, [], false)
 else
 some ((p_s.1, p_s.2.1, p_s.2.2.1, p_s.2.2.2.1, r6.1, p_s.2.2.2.2.2), ([111, 107] : Bytes), true)
 else
 bif (decide (p_name = w_fail)) then
 (idx p_n 0).bind fun e7 =>
 (i_GiveUp p_s.2.2.2.2.1 e7).bind fun r8 =>
 bif (!r8.2) then
 some (p_s, [], false)
 else
 some ((p_s.1, p_s.2.1, p_s.2.2.1, p_s.2.2.2.1, r8.1, p_s.2.2.2.2.2), ([111, 107] : Bytes), true)
 else
 bif (decide (p_name = w_where)) then
 (idx p_n 0).bind fun e9 =>
 (i_ReceiptText p_s.2.2.2.2.1 e9).bind fun r10 =>
 some (p_s, r10.1, r10.2)
 else
 bif (!false) then
 some (p_s, [], false)
 else
 some (p_s, ([111, 107] : Bytes), true)
def C111 : FnSpec := { ps := [.obox TGscriptStateR, .val .str, .val (.slice (.int .i64))], rs := [.val .str, .val .bool], fn := fun x => i_scriptState_deskLine x.1 x.2.1 x.2.2 }
def E111 : Env := { T := [(3, (.int .i64)), (26, (.slice (.int .i64))), (31, (.slice TGTicket)), (71, TGscriptStateR)], G := [(150, C150), (151, C151), (152, C152), (153, C153)], ro := [], loops := [], joins := [] }
theorem S111 : Sound Tryz.prog 111 C111 := fun_sound_obox (E := E111) ⟨good_T (by kernel_rfl), (good_cons S150 ⟨_, Tryz.func150, by kernel_rfl, by kernel_rfl⟩ (good_cons S151 ⟨_, Tryz.func151, by kernel_rfl, by kernel_rfl⟩ (good_cons S152 ⟨_, Tryz.func152, by kernel_rfl, by kernel_rfl⟩ (good_cons S153 ⟨_, Tryz.func153, by kernel_rfl, by kernel_rfl⟩ good_nil)))), mixedOk, ins_nil⟩ Tryz.func111 rfl rfl fun _ => by kernel_rfl
def cmp_Or_int (p_vals : List Int) : Option (Int) :=
 (loopE (fun (st2 : Int) => (
 bif (decide (st2 < (p_vals.length : Int))) then
 (idx p_vals st2).bind fun e3 =>
 bif (!decide (e3 = 0)) then
 some (.inr (.inr e3))
 else
 some (.inl (w64 (st2 + 1)))
 else
 some (.inr (.inl ())) : Option ((Int) ⊕ (Unit ⊕ Int)))) 0).bind fun o4 =>
 match o4 with
 | .inl _ =>
  some 0
 | .inr y6 =>
  some y6
def C86 : FnSpec := { ps := [.val (.slice (.int .i64))], rs := [.val (.int .i64)], fn := fun x => cmp_Or_int x }
def E86 : Env := { T := [(3, (.int .i64)), (26, (.slice (.int .i64)))], G := [], ro := [], loops := [(3, { keep := [3, 6, 7], live := [.tv 8 (.int .i64)], outs := [(.exit 0, []), (.ret, [.tv 2 (.int .i64)])] })], joins := [] }
theorem S86 : Sound Tryz.prog 86 C86 := fun_sound (E := E86) ⟨good_T (by kernel_rfl), good_nil, mixedOk, ins_nil⟩ Tryz.func86 rfl fun _ => by kernel_rfl
def cmp_isNaN_int (p_x : Int) : Option (Bool) :=
 some (!decide (p_x = p_x))
def C115 : FnSpec := { ps := [.val (.int .i64)], rs := [.val .bool], fn := fun x => cmp_isNaN_int x }
def E115 : Env := { T := [], G := [], ro := [], loops := [], joins := [] }
theorem S115 : Sound Tryz.prog 115 C115 := fun_sound (E := E115) ⟨good_T (by kernel_rfl), good_nil, mixedOk, ins_nil⟩ Tryz.func115 rfl fun _ => by kernel_rfl
def cmp_Compare_int (p_x : Int) (p_y : Int) : Option (Int) :=
 (cmp_isNaN_int p_x).bind fun r1 =>
 (cmp_isNaN_int p_y).bind fun r2 =>
 bif r1 then
 bif r2 then
 some 0
 else
 some (-1)
 else
 bif r2 then
 some 1
 else
 bif (decide (p_x < p_y)) then
 some (-1)
 else
 bif (decide (p_y < p_x)) then
 some 1
 else
 some 0
def C87 : FnSpec := { ps := [.val (.int .i64), .val (.int .i64)], rs := [.val (.int .i64)], fn := fun x => cmp_Compare_int x.1 x.2 }
def E87 : Env := { T := [], G := [(115, C115)], ro := [], loops := [], joins := [] }
theorem S87 : Sound Tryz.prog 87 C87 := fun_sound (E := E87) ⟨good_T (by kernel_rfl), (good_cons S115 ⟨_, Tryz.func115, by kernel_rfl, by kernel_rfl⟩ good_nil), mixedOk, ins_nil⟩ Tryz.func87 rfl fun _ => by kernel_rfl
def i_compareLinks (p_a : GTower) (p_b : GTower) : Option (Int) :=
 (cmp_Compare_int p_a.1 p_b.1).bind fun r1 =>
 (cmp_Compare_int p_a.2.1 p_b.2.1).bind fun r2 =>
 (cmp_Or_int [r1, r2]).bind fun r3 =>
 some r3
def C68 : FnSpec := { ps := [.val TGTower, .val TGTower], rs := [.val (.int .i64)], fn := fun x => i_compareLinks x.1 x.2 }
def E68 : Env := { T := [(3, (.int .i64)), (26, (.slice (.int .i64))), (106, TGTower)], G := [(86, C86), (87, C87)], ro := [2, 3], loops := [], joins := [] }
theorem S68 : Sound Tryz.prog 68 C68 := fun_sound (E := E68) ⟨good_T (by kernel_rfl), (good_cons S86 ⟨_, Tryz.func86, by kernel_rfl, by kernel_rfl⟩ (good_cons S87 ⟨_, Tryz.func87, by kernel_rfl, by kernel_rfl⟩ good_nil)), mixedOk, ins_nil⟩ Tryz.func68 rfl fun _ => by kernel_rfl
def i_IsNet (p_n : GNet) : Option (Bool) :=
 (i_within (p_n.1.length : Int) 1 16).bind fun r1 =>
 (bif (!r1) then
 some true
 else
 some (decide (40 < (p_n.2.1.length : Int)))).bind fun c2 =>
 bif c2 then
 some false
 else
 (loopE (fun (st4 : Int) => (
 bif (decide (st4 < (p_n.1.length : Int))) then
 (idx p_n.1 st4).bind fun e5 =>
 (i_within e5.1 0 999).bind fun r6 =>
 (bif (!r6) then
 some true
 else
 (i_within e5.2.1 0 999).bind fun r7 =>
 some (!r7)).bind fun c8 =>
 (bif c8 then
 some true
 else
 (i_within e5.2.2.1 0 500).bind fun r9 =>
 some (!r9)).bind fun c10 =>
 bif c10 then
 some (.inr (.inr false))
 else
 some (.inl (w64 (st4 + 1)))
 else
 some (.inr (.inl ())) : Option ((Int) ⊕ (Unit ⊕ Bool)))) 0).bind fun o11 =>
 match o11 with
 | .inl _ =>
  (loopE (fun (st15 : Int) => (
  bif (decide (st15 < (p_n.2.1.length : Int))) then
  (idx p_n.2.1 st15).bind fun e16 =>
  (bif (decide (e16.1 < 0)) then
  some true
  else
  some (decide (e16.2.1 ≤ e16.1))).bind fun c17 =>
  (bif c17 then
  some true
  else
  some (decide ((p_n.1.length : Int) ≤ e16.2.1))).bind fun c18 =>
  (bif c18 then
  some true
  else
  (i_within e16.2.2.1 1 60).bind fun r19 =>
  some (!r19)).bind fun c20 =>
  (bif c20 then
  some true
  else
  (bif (decide (0 < st15)) then
  (idx p_n.2.1 (w64 (st15 - 1))).bind fun e21 =>
  (i_compareLinks e21 e16).bind fun r22 =>
  some (decide (0 ≤ r22))
  else
  some false).bind fun c23 =>
  some c23).bind fun c24 =>
  bif c24 then
  some (.inr (.inr false))
  else
  some (.inl (w64 (st15 + 1)))
  else
  some (.inr (.inl ())) : Option ((Int) ⊕ (Unit ⊕ Bool)))) 0).bind fun o25 =>
  match o25 with
  | .inl _ =>
   some true
  | .inr y27 =>
   some y27
 | .inr y13 =>
  some y13
def C43 : FnSpec := { ps := [.val TGNet], rs := [.val .bool], fn := fun x => i_IsNet x }
def E43 : Env := { T := [(3, (.int .i64)), (43, (.slice TGTower)), (44, (.slice TGTower)), (46, TGNet), (104, TGTower), (106, TGTower)], G := [(67, C67), (68, C68)], ro := [1], loops := [(4, { keep := [1, 19, 20, 54, 55, 56, 57, 58, 61, 62, 63, 64, 65, 66, 69, 70, 71, 72, 75, 76, 77, 78, 79, 80, 81, 82, 83, 84, 85, 86, 87], live := [.tv 21 (.int .i64)], outs := [(.exit 0, []), (.ret, [.tv 2 .bool])] }), (10, { keep := [1, 43, 44], live := [.tv 45 (.int .i64)], outs := [(.exit 2, []), (.ret, [.tv 2 .bool])] })], joins := [] }
theorem S43 : Sound Tryz.prog 43 C43 := fun_sound (E := E43) ⟨good_T (by kernel_rfl), (good_cons S67 ⟨_, Tryz.func67, by kernel_rfl, by kernel_rfl⟩ (good_cons S68 ⟨_, Tryz.func68, by kernel_rfl, by kernel_rfl⟩ good_nil)), mixedOk, ins_nil⟩ Tryz.func43 rfl fun _ => by kernel_rfl
def slices_Clone_Tower (p_s : List GTower) : Option ((List GTower)) :=
 bif List.isEmpty p_s then
 bothSame (
 bif true then
 some []
 else
 bif decide (List.length p_s ≤ lim) then
 some p_s
 else
 none)
 (
 bif false then
 some []
 else
 bif decide (List.length p_s ≤ lim) then
 some p_s
 else
 none)
 else
 bif false then
 some []
 else
 bif decide (List.length p_s ≤ lim) then
 some p_s
 else
 none
def C210 : FnSpec := { ps := [.val (.slice TGTower)], rs := [.own (.slice TGTower)], fn := fun x => slices_Clone_Tower x }
def E210 : Env := { T := [(43, (.slice TGTower))], G := [], ro := [], loops := [], joins := [] }
theorem S210 : Sound Tryz.prog 210 C210 := fun_sound (E := E210) ⟨good_T (by kernel_rfl), good_nil, mixedOk, ins_nil⟩ Tryz.func210 rfl fun _ => by kernel_rfl
def slices_Clone_Link (p_s : List GTower) : Option ((List GTower)) :=
 bif List.isEmpty p_s then
 bothSame (
 bif true then
 some []
 else
 bif decide (List.length p_s ≤ lim) then
 some p_s
 else
 none)
 (
 bif false then
 some []
 else
 bif decide (List.length p_s ≤ lim) then
 some p_s
 else
 none)
 else
 bif false then
 some []
 else
 bif decide (List.length p_s ≤ lim) then
 some p_s
 else
 none
def C211 : FnSpec := { ps := [.val (.slice TGTower)], rs := [.own (.slice TGTower)], fn := fun x => slices_Clone_Link x }
def E211 : Env := { T := [(44, (.slice TGTower))], G := [], ro := [], loops := [], joins := [] }
theorem S211 : Sound Tryz.prog 211 C211 := fun_sound (E := E211) ⟨good_T (by kernel_rfl), good_nil, mixedOk, ins_nil⟩ Tryz.func211 rfl fun _ => by kernel_rfl
def i_cloneNet (p_n : GNet) : Option (GNet) :=
 (slices_Clone_Tower p_n.1).bind fun r1 =>
 (slices_Clone_Link p_n.2.1).bind fun r2 =>
 some (r1, r2, ())
def C154 : FnSpec := { ps := [.val TGNet], rs := [.own TGNet], fn := fun x => i_cloneNet x }
def E154 : Env := { T := [(43, (.slice TGTower)), (44, (.slice TGTower)), (46, TGNet)], G := [(210, C210), (211, C211)], ro := [1], loops := [], joins := [] }
theorem S154 : Sound Tryz.prog 154 C154 := fun_sound (E := E154) ⟨good_T (by kernel_rfl), (good_cons S210 ⟨_, Tryz.func210, by kernel_rfl, by kernel_rfl⟩ (good_cons S211 ⟨_, Tryz.func211, by kernel_rfl, by kernel_rfl⟩ good_nil)), mixedOk, ins_nil⟩ Tryz.func154 rfl fun _ => by kernel_rfl
def i_AddLink (p_n : GNet) (p_x : GTower) : Option (GNet × Bool) :=
 (i_IsNet p_n).bind fun r1 =>
 bif (!r1) then
 some (([], [], ()), false)
 else
 (i_cloneNet p_n).bind fun r2 =>
 (loopE (fun (st4 : (List GTower) × (List GTower) × (List GTower) × (List GTower) × Int) => (
 (bif (decide (st4.2.2.2.2 < (st4.2.2.2.1.length : Int))) then
 bif decide (0 ≤ st4.2.2.2.2) && decide (st4.2.2.2.2 < (st4.2.2.2.1.length : Int)) then
 (st4.2.2.2.1[(Int.toNat st4.2.2.2.2)]?).bind fun e5 =>
 (i_compareLinks e5 p_x).bind fun r6 =>
 some (decide (r6 < 0))
 else
 none
 else
 some false).bind fun c7 =>
 bif c7 then
 some (.inl (st4.1, st4.2.1, st4.2.2.1, st4.2.2.2.1, (w64 (st4.2.2.2.2 + 1))))
 else
 some (.inr (st4.1, st4.2.1, st4.2.2.1, st4.2.2.2.1, st4.2.2.2.2)) : Option (((List GTower) × (List GTower) × (List GTower) × (List GTower) × Int) ⊕ (((List GTower) × (List GTower) × (List GTower) × (List GTower) × Int))))) ([], [], r2.1, r2.2.1, 0)).bind fun o8 =>
 bif decide (0 ≤ o8.2.2.2.2) && decide (o8.2.2.2.2 ≤ (o8.2.2.2.1.length : Int)) && decide (List.length o8.2.2.2.1 ≤ 999999) then
 (i_IsNet (o8.2.2.1, (insV o8.2.2.2.1 o8.2.2.2.2 p_x), ())).bind fun r9 =>
 bif (!r9) then
 some (([], [], ()), false)
 else
 some ((o8.2.2.1, (insV o8.2.2.2.1 o8.2.2.2.2 p_x), ()), true)
 else
 none
def C155 : FnSpec := { ps := [.val TGNet, .val TGTower], rs := [.own TGNet, .val .bool], fn := fun x => i_AddLink x.1 x.2 }
def E155 : Env := { T := [(44, (.slice TGTower)), (46, TGNet), (106, TGTower)], G := [(43, C43), (68, C68), (154, C154)], ro := [2, 3], loops := [(5, { keep := [3], live := [.bx 4 64 [.own 300064 TGTower true, .own 300065 TGTower true], .bx 6 96 [.own 208 TGTower true, .own 209 TGTower true], .tv 7 (.int .i64)], outs := [(.exit 0, [.bx 4 64 [.own 300064 TGTower true, .own 300065 TGTower true], .bx 6 96 [.own 208 TGTower true, .own 209 TGTower true], .tv 7 (.int .i64)])] })], joins := [], ins := [(212, TGTower)] }
theorem S155 : Sound Tryz.prog 155 C155 := fun_sound (E := E155) ⟨good_T (by kernel_rfl), (good_cons S43 ⟨_, Tryz.func43, by kernel_rfl, by kernel_rfl⟩ (good_cons S68 ⟨_, Tryz.func68, by kernel_rfl, by kernel_rfl⟩ (good_cons S154 ⟨_, Tryz.func154, by kernel_rfl, by kernel_rfl⟩ good_nil))), mixedOk, (ins_cons insOk212 ⟨_, Tryz.func212, by kernel_rfl, by kernel_rfl⟩ ins_nil)⟩ Tryz.func155 rfl fun _ => by kernel_rfl
def i_isFog (p_n : GNet) (p_x : GTower) : Option (Bool) :=
 (i_within p_x.1 0 (w64 ((p_n.2.1.length : Int) - 1))).bind fun r1 =>
 (bif r1 then
 some (decide (0 ≤ p_x.2.1))
 else
 some false).bind fun c2 =>
 (bif c2 then
 some (decide (p_x.2.1 < p_x.2.2.1))
 else
 some false).bind fun c3 =>
 (bif c3 then
 some (decide (p_x.2.2.1 ≤ 10000))
 else
 some false).bind fun c4 =>
 some c4
def C214 : FnSpec := { ps := [.val TGNet, .val TGTower], rs := [.val .bool], fn := fun x => i_isFog x.1 x.2 }
def E214 : Env := { T := [(3, (.int .i64)), (44, (.slice TGTower)), (46, TGNet), (155, TGTower)], G := [(67, C67)], ro := [2, 3], loops := [], joins := [] }
theorem S214 : Sound Tryz.prog 214 C214 := fun_sound (E := E214) ⟨good_T (by kernel_rfl), (good_cons S67 ⟨_, Tryz.func67, by kernel_rfl, by kernel_rfl⟩ good_nil), mixedOk, ins_nil⟩ Tryz.func214 rfl fun _ => by kernel_rfl
def i_compareFogs (p_a : GTower) (p_b : GTower) : Option (Int) :=
 (cmp_Compare_int p_a.1 p_b.1).bind fun r1 =>
 (cmp_Compare_int p_a.2.1 p_b.2.1).bind fun r2 =>
 (cmp_Or_int [r1, r2]).bind fun r3 =>
 some r3
def C216 : FnSpec := { ps := [.val TGTower, .val TGTower], rs := [.val (.int .i64)], fn := fun x => i_compareFogs x.1 x.2 }
def E216 : Env := { T := [(3, (.int .i64)), (26, (.slice (.int .i64))), (155, TGTower)], G := [(86, C86), (87, C87)], ro := [2, 3], loops := [], joins := [] }
theorem S216 : Sound Tryz.prog 216 C216 := fun_sound (E := E216) ⟨good_T (by kernel_rfl), (good_cons S86 ⟨_, Tryz.func86, by kernel_rfl, by kernel_rfl⟩ (good_cons S87 ⟨_, Tryz.func87, by kernel_rfl, by kernel_rfl⟩ good_nil)), mixedOk, ins_nil⟩ Tryz.func216 rfl fun _ => by kernel_rfl
def i_areFogs (p_n : GNet) (p_l : List GTower) : Option (Bool) :=
 bif (decide (60 < (p_l.length : Int))) then
 some false
 else
 (loopE (fun (st2 : Int) => (
 bif (decide (st2 < (p_l.length : Int))) then
 (idx p_l st2).bind fun e3 =>
 (i_isFog p_n e3).bind fun r4 =>
 (bif (!r4) then
 some true
 else
 (bif (decide (0 < st2)) then
 (idx p_l (w64 (st2 - 1))).bind fun e5 =>
 (i_compareFogs e5 e3).bind fun r6 =>
 (bif (decide (0 ≤ r6)) then
 some true
 else
 (idx p_l (w64 (st2 - 1))).bind fun e7 =>
 (bif (decide (e7.1 = e3.1)) then
 (idx p_l (w64 (st2 - 1))).bind fun e8 =>
 some (decide (e3.2.1 ≤ e8.2.2.1))
 else
 some false).bind fun c9 =>
 some c9).bind fun c10 =>
 some c10
 else
 some false).bind fun c11 =>
 some c11).bind fun c12 =>
 bif c12 then
 some (.inr (.inr false))
 else
 some (.inl (w64 (st2 + 1)))
 else
 some (.inr (.inl ())) : Option ((Int) ⊕ (Unit ⊕ Bool)))) 0).bind fun o13 =>
 match o13 with
 | .inl _ =>
  some true
 | .inr y15 =>
  some y15
def C213 : FnSpec := { ps := [.val TGNet, .val (.slice TGTower)], rs := [.val .bool], fn := fun x => i_areFogs x.1 x.2 }
def E213 : Env := { T := [(3, (.int .i64)), (46, TGNet), (65, (.slice TGTower)), (155, TGTower)], G := [(214, C214), (216, C216)], ro := [2], loops := [(4, { keep := [1, 2, 10, 11], live := [.tv 12 (.int .i64)], outs := [(.exit 0, []), (.ret, [.tv 4 .bool])] })], joins := [] }
theorem S213 : Sound Tryz.prog 213 C213 := fun_sound (E := E213) ⟨good_T (by kernel_rfl), (good_cons S214 ⟨_, Tryz.func214, by kernel_rfl, by kernel_rfl⟩ (good_cons S216 ⟨_, Tryz.func216, by kernel_rfl, by kernel_rfl⟩ good_nil)), mixedOk, ins_nil⟩ Tryz.func213 rfl fun _ => by kernel_rfl
def C215 : FnSpec := { ps := [.own (.slice TGTower), .fn 216 []], rs := [], fn := fun x => sortFogF x.1 }
theorem S215 : Sound Tryz.prog 215 C215 := sortFogSound
def i_AddFog (p_n : GNet) (p_l : List GTower) (p_x : GTower) : Option ((List GTower) × Bool) :=
 (i_IsNet p_n).bind fun r1 =>
 (bif (!r1) then
 some true
 else
 (i_areFogs p_n p_l).bind fun r2 =>
 some (!r2)).bind fun c3 =>
 (bif c3 then
 some true
 else
 (i_isFog p_n p_x).bind fun r4 =>
 some (!r4)).bind fun c5 =>
 bif c5 then
 some ([], false)
 else
 (loopE (fun (st7 : Int × Int × Int × (List GTower) × Int) => (
 bif (decide (st7.2.2.2.2 < (p_l.length : Int))) then
 (idx p_l st7.2.2.2.2).bind fun e8 =>
 (bif (decide (e8.1 = st7.1)) then
 some (decide (e8.2.1 ≤ st7.2.2.1))
 else
 some false).bind fun c9 =>
 (bif c9 then
 some (decide (st7.2.1 ≤ e8.2.2.1))
 else
 some false).bind fun c10 =>
 bif c10 then
 some (.inl (st7.1, (bif decide (e8.2.1 < st7.2.1) then e8.2.1 else st7.2.1), (bif decide (st7.2.2.1 < e8.2.2.1) then e8.2.2.1 else st7.2.2.1), st7.2.2.2.1, (w64 (st7.2.2.2.2 + 1))))
 else
 bif decide (List.length st7.2.2.2.1 + List.length [e8] ≤ lim) then
 some (.inl (st7.1, st7.2.1, st7.2.2.1, (st7.2.2.2.1 ++ [e8]), (w64 (st7.2.2.2.2 + 1))))
 else
 none
 else
 some (.inr (st7.1, st7.2.1, st7.2.2.1, st7.2.2.2.1)) : Option ((Int × Int × Int × (List GTower) × Int) ⊕ ((Int × Int × Int × (List GTower)))))) (p_x.1, p_x.2.1, p_x.2.2.1, [], 0)).bind fun o11 =>
 bif decide (List.length o11.2.2.2 + List.length [(o11.1, o11.2.1, o11.2.2.1, ())] ≤ lim) then
 (sortFogF (o11.2.2.2 ++ [(o11.1, o11.2.1, o11.2.2.1, ())])).bind fun r12 =>
 bif (decide (60 < (r12.length : Int))) then
 some ([], false)
 else
 some (r12, true)
 else
 none
def C156 : FnSpec := { ps := [.val TGNet, .val (.slice TGTower), .val TGTower], rs := [.own (.slice TGTower), .val .bool], fn := fun x => i_AddFog x.1 x.2.1 x.2.2 }
def E156 : Env := { T := [(3, (.int .i64)), (46, TGNet), (65, (.slice TGTower)), (155, TGTower)], G := [(43, C43), (213, C213), (214, C214), (215, C215)], ro := [3], loops := [(5, { keep := [26, 27], live := [.bx 5 80 [.pv (.int .i64), .pv (.int .i64), .pv (.int .i64)], .own 8 [] 200008 TGTower true, .tv 28 (.int .i64)], outs := [(.exit 0, [.bx 5 80 [.pv (.int .i64), .pv (.int .i64), .pv (.int .i64)], .own 8 [] 200008 TGTower true])] })], joins := [], hoist := [(8, [7])], areads := [52, 57], astore := [(61, 80)] }
theorem S156 : Sound Tryz.prog 156 C156 := fun_sound (E := E156) ⟨good_T (by kernel_rfl), (good_cons S43 ⟨_, Tryz.func43, by kernel_rfl, by kernel_rfl⟩ (good_cons S213 ⟨_, Tryz.func213, by kernel_rfl, by kernel_rfl⟩ (good_cons S214 ⟨_, Tryz.func214, by kernel_rfl, by kernel_rfl⟩ (good_cons S215 ⟨_, Tryz.func215, by kernel_rfl, by kernel_rfl⟩ good_nil)))), mixedOk, ins_nil⟩ Tryz.func156 rfl fun _ => by kernel_rfl
def i_isTower (p_n : GNet) (p_i : Int) : Option (Bool) :=
 (i_IsNet p_n).bind fun r1 =>
 (bif r1 then
 (i_within p_i 0 (w64 ((p_n.1.length : Int) - 1))).bind fun r2 =>
 some r2
 else
 some false).bind fun c3 =>
 some c3
def C278 : FnSpec := { ps := [.val TGNet, .val (.int .i64)], rs := [.val .bool], fn := fun x => i_isTower x.1 x.2 }
def E278 : Env := { T := [(43, (.slice TGTower)), (46, TGNet)], G := [(43, C43), (67, C67)], ro := [2], loops := [], joins := [] }
theorem S278 : Sound Tryz.prog 278 C278 := fun_sound (E := E278) ⟨good_T (by kernel_rfl), (good_cons S43 ⟨_, Tryz.func43, by kernel_rfl, by kernel_rfl⟩ (good_cons S67 ⟨_, Tryz.func67, by kernel_rfl, by kernel_rfl⟩ good_nil)), mixedOk, ins_nil⟩ Tryz.func278 rfl fun _ => by kernel_rfl
def i_wayAsked (p_n : GNet) (p_l : List GTower) (p_a : Int) (p_b : Int) (p_t : Int) : Option (Bool) :=
 (i_isTower p_n p_a).bind fun r1 =>
 (bif r1 then
 (i_isTower p_n p_b).bind fun r2 =>
 some r2
 else
 some false).bind fun c3 =>
 (bif c3 then
 (i_areFogs p_n p_l).bind fun r4 =>
 some r4
 else
 some false).bind fun c5 =>
 (bif c5 then
 (i_within p_t 0 10000).bind fun r6 =>
 some r6
 else
 some false).bind fun c7 =>
 some c7
def C217 : FnSpec := { ps := [.val TGNet, .val (.slice TGTower), .val (.int .i64), .val (.int .i64), .val (.int .i64)], rs := [.val .bool], fn := fun x => i_wayAsked x.1 x.2.1 x.2.2.1 x.2.2.2.1 x.2.2.2.2 }
def E217 : Env := { T := [(46, TGNet)], G := [(67, C67), (213, C213), (278, C278)], ro := [5], loops := [], joins := [] }
theorem S217 : Sound Tryz.prog 217 C217 := fun_sound (E := E217) ⟨good_T (by kernel_rfl), (good_cons S67 ⟨_, Tryz.func67, by kernel_rfl, by kernel_rfl⟩ (good_cons S213 ⟨_, Tryz.func213, by kernel_rfl, by kernel_rfl⟩ (good_cons S278 ⟨_, Tryz.func278, by kernel_rfl, by kernel_rfl⟩ good_nil))), mixedOk, ins_nil⟩ Tryz.func217 rfl fun _ => by kernel_rfl
def i_startAfter (p_l : List GTower) (p_link : Int) (p_t : Int) (p_seconds : Int) : Option (Int) :=
 (loopE (fun (st2 : Int × Int) => (
 bif (decide (st2.2 < (p_l.length : Int))) then
 (idx p_l st2.2).bind fun e3 =>
 (bif (decide (e3.1 = p_link)) then
 some (decide (st2.1 < e3.2.2.1))
 else
 some false).bind fun c4 =>
 (bif c4 then
 some (decide (e3.2.1 < (w64 (st2.1 + p_seconds))))
 else
 some false).bind fun c5 =>
 bif c5 then
 some (.inl (e3.2.2.1, (w64 (st2.2 + 1))))
 else
 some (.inl (st2.1, (w64 (st2.2 + 1))))
 else
 some (.inr st2.1) : Option ((Int × Int) ⊕ (Int)))) (p_t, 0)).bind fun o6 =>
 some o6
def C281 : FnSpec := { ps := [.val (.slice TGTower), .val (.int .i64), .val (.int .i64), .val (.int .i64)], rs := [.val (.int .i64)], fn := fun x => i_startAfter x.1 x.2.1 x.2.2.1 x.2.2.2 }
def E281 : Env := { T := [(3, (.int .i64)), (65, (.slice TGTower)), (155, TGTower)], G := [], ro := [], loops := [(2, { keep := [1, 3, 11, 12], live := [.tv 2 (.int .i64), .tv 13 (.int .i64)], outs := [(.exit 0, [.tv 2 (.int .i64)])] })], joins := [] }
theorem S281 : Sound Tryz.prog 281 C281 := fun_sound (E := E281) ⟨good_T (by kernel_rfl), good_nil, mixedOk, ins_nil⟩ Tryz.func281 rfl fun _ => by kernel_rfl
def i_goOver (p_n : GNet) (p_l : List GTower) (p_link : Int) (p_t : Int) : Option (Int) :=
 (idx p_n.2.1 p_link).bind fun e1 =>
 (i_startAfter p_l p_link p_t e1.2.2.1).bind fun r2 =>
 some (w64 (r2 + e1.2.2.1))
def C220 : FnSpec := { ps := [.val TGNet, .val (.slice TGTower), .val (.int .i64), .val (.int .i64)], rs := [.val (.int .i64)], fn := fun x => i_goOver x.1 x.2.1 x.2.2.1 x.2.2.2 }
def E220 : Env := { T := [(3, (.int .i64)), (44, (.slice TGTower)), (46, TGNet), (106, TGTower)], G := [(281, C281)], ro := [4], loops := [], joins := [] }
theorem S220 : Sound Tryz.prog 220 C220 := fun_sound (E := E220) ⟨good_T (by kernel_rfl), (good_cons S281 ⟨_, Tryz.func281, by kernel_rfl, by kernel_rfl⟩ good_nil), mixedOk, ins_nil⟩ Tryz.func220 rfl fun _ => by kernel_rfl
def i_arrivals (p_n : GNet) (p_l : List GTower) (p_a : Int) (p_t : Int) : Option ((List Int)) :=
 bif decide (0 ≤ (p_n.1.length : Int)) && decide ((p_n.1.length : Int) ≤ (p_n.1.length : Int)) && decide ((p_n.1.length : Int) ≤ lim) then
 (loopE (fun (st2 : (List Int) × Int) => (
 bif (decide (st2.2 < ((List.replicate (Int.toNat (p_n.1.length : Int)) (0 : Int)).length : Int))) then
 bif decide (0 ≤ st2.2) && decide (st2.2 < (st2.1.length : Int)) then
 some (.inl ((st2.1.set (Int.toNat st2.2) (-1)), (w64 (st2.2 + 1))))
 else
 none
 else
 some (.inr st2.1) : Option (((List Int) × Int) ⊕ ((List Int))))) ((List.replicate (Int.toNat (p_n.1.length : Int)) (0 : Int)), 0)).bind fun o3 =>
 bif decide (0 ≤ p_a) && decide (p_a < (o3.length : Int)) then
 (loopE (fun (st5 : (List Int) × Bool) => (
 bif st5.2 then
 (loopE (fun (st7 : (List Int) × Bool × Int) => (
 bif (decide (st7.2.2 < (p_n.2.1.length : Int))) then
 (idx p_n.2.1 st7.2.2).bind fun e8 =>
 (loopE (fun (st10 : (List Int) × Bool × Int) => (
 bif (decide (st10.2.2 < 2)) then
 bif decide (st10.2.2 = (1 : Int)) then
 bif decide (0 ≤ e8.2.1) && decide (e8.2.1 < (st10.1.length : Int)) then
 (st10.1[(Int.toNat e8.2.1)]?).bind fun e17 =>
 bif (decide (e17 < 0)) then
 some (.inl (st10.1, st10.2.1, (w64 (st10.2.2 + 1))))
 else
 bif decide (0 ≤ e8.2.1) && decide (e8.2.1 < (st10.1.length : Int)) then
 (st10.1[(Int.toNat e8.2.1)]?).bind fun e18 =>
 (i_goOver p_n p_l st7.2.2 e18).bind fun r19 =>
 bif decide (0 ≤ e8.1) && decide (e8.1 < (st10.1.length : Int)) then
 (st10.1[(Int.toNat e8.1)]?).bind fun e20 =>
 (bif (decide (e20 < 0)) then
 some true
 else
 bif decide (0 ≤ e8.1) && decide (e8.1 < (st10.1.length : Int)) then
 (st10.1[(Int.toNat e8.1)]?).bind fun e21 =>
 some (decide (r19 < e21))
 else
 none).bind fun c22 =>
 bif c22 then
 bif decide (0 ≤ e8.1) && decide (e8.1 < (st10.1.length : Int)) then
 some (.inl ((st10.1.set (Int.toNat e8.1) r19), true, (w64 (st10.2.2 + 1))))
 else
 none
 else
 some (.inl (st10.1, st10.2.1, (w64 (st10.2.2 + 1))))
 else
 none
 else
 none
 else
 none
 else
 bif decide (st10.2.2 = (0 : Int)) then
 bif decide (0 ≤ e8.1) && decide (e8.1 < (st10.1.length : Int)) then
 (st10.1[(Int.toNat e8.1)]?).bind fun e11 =>
 bif (decide (e11 < 0)) then
 some (.inl (st10.1, st10.2.1, (w64 (st10.2.2 + 1))))
 else
 bif decide (0 ≤ e8.1) && decide (e8.1 < (st10.1.length : Int)) then
 (st10.1[(Int.toNat e8.1)]?).bind fun e12 =>
 (i_goOver p_n p_l st7.2.2 e12).bind fun r13 =>
 bif decide (0 ≤ e8.2.1) && decide (e8.2.1 < (st10.1.length : Int)) then
 (st10.1[(Int.toNat e8.2.1)]?).bind fun e14 =>
 (bif (decide (e14 < 0)) then
 some true
 else
 bif decide (0 ≤ e8.2.1) && decide (e8.2.1 < (st10.1.length : Int)) then
 (st10.1[(Int.toNat e8.2.1)]?).bind fun e15 =>
 some (decide (r13 < e15))
 else
 none).bind fun c16 =>
 bif c16 then
 bif decide (0 ≤ e8.2.1) && decide (e8.2.1 < (st10.1.length : Int)) then
 some (.inl ((st10.1.set (Int.toNat e8.2.1) r13), true, (w64 (st10.2.2 + 1))))
 else
 none
 else
 some (.inl (st10.1, st10.2.1, (w64 (st10.2.2 + 1))))
 else
 none
 else
 none
 else
 none
 else
 none
 else
 some (.inr (st10.1, st10.2.1)) : Option (((List Int) × Bool × Int) ⊕ (((List Int) × Bool))))) (st7.1, st7.2.1, 0)).bind fun o23 =>
 some (.inl (o23.1, o23.2, (w64 (st7.2.2 + 1))))
 else
 some (.inr (st7.1, st7.2.1)) : Option (((List Int) × Bool × Int) ⊕ (((List Int) × Bool))))) (st5.1, false, 0)).bind fun o24 =>
 some (.inl (o24.1, o24.2))
 else
 some (.inr st5.1) : Option (((List Int) × Bool) ⊕ ((List Int))))) ((o3.set (Int.toNat p_a) p_t), true)).bind fun o25 =>
 some o25
 else
 none
 else
 none
def C218 : FnSpec := { ps := [.val TGNet, .val (.slice TGTower), .val (.int .i64), .val (.int .i64)], rs := [.own (.slice (.int .i64))], fn := fun x => i_arrivals x.1 x.2.1 x.2.2.1 x.2.2.2 }
def E218 : Env := { T := [(3, (.int .i64)), (26, (.slice (.int .i64))), (43, (.slice TGTower)), (44, (.slice TGTower)), (46, TGNet), (106, TGTower), (248, (.pair .unit (.pair (.int .i64) (.pair (.int .i64) .unit)))), (249, (.pair .unit (.pair (.pair .unit (.pair (.int .i64) (.pair (.int .i64) .unit))) (.pair (.pair .unit (.pair (.int .i64) (.pair (.int .i64) .unit))) .unit))))], G := [(220, C220)], ro := [4], loops := [(3, { keep := [1, 2, 3, 4, 24, 82, 83, 84, 85, 86, 87], live := [.own 9 [] 352 (.int .i64) true, .tv 25 (.int .i64)], outs := [(.exit 0, [.own 9 [] 352 (.int .i64) true])] }), (9, { keep := [1, 4], live := [.own 9 [] 352 (.int .i64) true, .tv 11 .bool], outs := [(.exit 2, [.own 9 [] 352 (.int .i64) true])] }), (12, { keep := [1, 4, 38, 39], live := [.own 9 [] 352 (.int .i64) true, .tv 11 .bool, .tv 40 (.int .i64)], outs := [(.exit 4, [.own 9 [] 352 (.int .i64) true, .tv 11 .bool])] }), (15, { keep := [1, 4, 12, 38, 39, 40, 55], live := [.own 9 [] 352 (.int .i64) true, .tv 11 .bool, .tv 56 (.int .i64)], outs := [(.exit 6, [.own 9 [] 352 (.int .i64) true, .tv 11 .bool])] })], joins := [] }
theorem S218 : Sound Tryz.prog 218 C218 := fun_sound (E := E218) ⟨good_T (by kernel_rfl), (good_cons S220 ⟨_, Tryz.func220, by kernel_rfl, by kernel_rfl⟩ good_nil), mixedOk, ins_nil⟩ Tryz.func218 rfl fun _ => by kernel_rfl
def i_FirstArrival (p_n : GNet) (p_l : List GTower) (p_a : Int) (p_b : Int) (p_t : Int) : Option (Int × Bool) :=
 (i_wayAsked p_n p_l p_a p_b p_t).bind fun r1 =>
 bif (!r1) then
 some (0, false)
 else
 (i_arrivals p_n p_l p_a p_t).bind fun r2 =>
 bif decide (0 ≤ p_b) && decide (p_b < (r2.length : Int)) then
 (r2[(Int.toNat p_b)]?).bind fun e3 =>
 bif (decide (e3 < 0)) then
 some (0, false)
 else
 some (e3, true)
 else
 none
def C157 : FnSpec := { ps := [.val TGNet, .val (.slice TGTower), .val (.int .i64), .val (.int .i64), .val (.int .i64)], rs := [.val (.int .i64), .val .bool], fn := fun x => i_FirstArrival x.1 x.2.1 x.2.2.1 x.2.2.2.1 x.2.2.2.2 }
def E157 : Env := { T := [(3, (.int .i64)), (26, (.slice (.int .i64))), (46, TGNet)], G := [(217, C217), (218, C218)], ro := [5], loops := [], joins := [] }
theorem S157 : Sound Tryz.prog 157 C157 := fun_sound (E := E157) ⟨good_T (by kernel_rfl), (good_cons S217 ⟨_, Tryz.func217, by kernel_rfl, by kernel_rfl⟩ (good_cons S218 ⟨_, Tryz.func218, by kernel_rfl, by kernel_rfl⟩ good_nil)), mixedOk, ins_nil⟩ Tryz.func157 rfl fun _ => by kernel_rfl
def i_linkIndex_1 (p_x : GTower) (p_a1 : Int) (p_a2 : Int) : Option (Bool) :=
 (bif (decide (p_x.1 = (bif decide (p_a2 < p_a1) then p_a2 else p_a1))) then
 some (decide (p_x.2.1 = (bif decide (p_a1 < p_a2) then p_a2 else p_a1)))
 else
 some false).bind fun c1 =>
 some c1
def C280 : FnSpec := { ps := [.val TGTower, .rp (.int .i64), .rp (.int .i64)], rs := [.val .bool], fn := fun x => i_linkIndex_1 x.1 x.2.1 x.2.2 }
def E280 : Env := { T := [(3, (.int .i64)), (106, TGTower)], G := [], ro := [3], loops := [], joins := [] }
theorem S280 : Sound Tryz.prog 280 C280 := fun_sound (E := E280) ⟨good_T (by kernel_rfl), good_nil, mixedOk, ins_nil⟩ Tryz.func280 rfl fun _ => by kernel_rfl
def slices_IndexFunc_Link_280 (p_s : List GTower) (p_f : Int × Int × Unit) : Option (Int) :=
 (loopE (fun (st2 : Int) => (
 bif (decide (st2 < (p_s.length : Int))) then
 (idx p_s st2).bind fun e3 =>
 (i_linkIndex_1 e3 p_f.1 p_f.2.1).bind fun r4 =>
 bif r4 then
 some (.inr (.inr st2))
 else
 some (.inl (w64 (st2 + 1)))
 else
 some (.inr (.inl ())) : Option ((Int) ⊕ (Unit ⊕ Int)))) 0).bind fun o5 =>
 match o5 with
 | .inl _ =>
  some (-1)
 | .inr y7 =>
  some y7
def C279_280 : FnSpec := { ps := [.val (.slice TGTower), .fn 280 [(.int .i64), (.int .i64)]], rs := [.val (.int .i64)], fn := fun x => slices_IndexFunc_Link_280 x.1 x.2 }
def E279_280 : Env := { T := [(44, (.slice TGTower)), (106, TGTower)], G := [(280, C280)], ro := [], loops := [(2, { keep := [0, 1, 7], live := [.tv 8 (.int .i64)], outs := [(.exit 0, []), (.ret, [.tv 4 (.int .i64)])] })], joins := [] }
theorem S279_280 : Sound Tryz.prog 279 C279_280 := fun_sound (E := E279_280) ⟨good_T (by kernel_rfl), (good_cons S280 ⟨_, Tryz.func280, by kernel_rfl, by kernel_rfl⟩ good_nil), mixedOk, ins_nil⟩ Tryz.func279 rfl fun _ => by kernel_rfl
def i_linkIndex (p_n : GNet) (p_a : Int) (p_b : Int) : Option (Int) :=
 (slices_IndexFunc_Link_280 p_n.2.1 (p_a, p_b, ())).bind fun r1 =>
 some r1
def C219 : FnSpec := { ps := [.val TGNet, .val (.int .i64), .val (.int .i64)], rs := [.val (.int .i64)], fn := fun x => i_linkIndex x.1 x.2.1 x.2.2 }
def E219 : Env := { T := [(3, (.int .i64)), (44, (.slice TGTower)), (46, TGNet)], G := [(279, C279_280)], ro := [3, 4, 5], loops := [], joins := [] }
theorem S219 : Sound Tryz.prog 219 C219 := fun_sound (E := E219) ⟨good_T (by kernel_rfl), (good_cons S279_280 ⟨_, Tryz.func279, by kernel_rfl, by kernel_rfl⟩ good_nil), mixedOk, ins_nil⟩ Tryz.func219 rfl fun _ => by kernel_rfl
def slices_Reverse_int (p_s : List Int) : Option ((List Int)) :=
 (loopE (fun (st2 : (List Int) × Int × Int) => (
 bif (decide (st2.2.1 < st2.2.2)) then
 bif decide (0 ≤ st2.2.2) && decide (st2.2.2 < (st2.1.length : Int)) then
 (st2.1[(Int.toNat st2.2.2)]?).bind fun e3 =>
 bif decide (0 ≤ st2.2.1) && decide (st2.2.1 < (st2.1.length : Int)) then
 (st2.1[(Int.toNat st2.2.1)]?).bind fun e4 =>
 bif decide (0 ≤ st2.2.1) && decide (st2.2.1 < (st2.1.length : Int)) then
 bif decide (0 ≤ st2.2.2) && decide (st2.2.2 < ((st2.1.set (Int.toNat st2.2.1) e3).length : Int)) then
 some (.inl (((st2.1.set (Int.toNat st2.2.1) e3).set (Int.toNat st2.2.2) e4), (w64 (st2.2.1 + 1)), (w64 (st2.2.2 - 1))))
 else
 none
 else
 none
 else
 none
 else
 none
 else
 some (.inr st2.1) : Option (((List Int) × Int × Int) ⊕ ((List Int))))) (p_s, 0, (w64 ((p_s.length : Int) - 1)))).bind fun o5 =>
 some o5
def C221 : FnSpec := { ps := [.own (.slice (.int .i64))], rs := [], fn := fun x => slices_Reverse_int x }
def E221 : Env := { T := [(3, (.int .i64)), (26, (.slice (.int .i64)))], G := [], ro := [], loops := [(1, { keep := [], live := [.own 0 [] 100000 (.int .i64) true, .tv 2 (.int .i64), .tv 3 (.int .i64)], outs := [(.exit 0, [.own 0 [] 100000 (.int .i64) true])] })], joins := [], hoist := [(3, [2, 3])] }
theorem S221 : Sound Tryz.prog 221 C221 := fun_sound_own (E := E221) ⟨good_T (by kernel_rfl), good_nil, mixedOk, ins_nil⟩ Tryz.func221 rfl rfl fun _ => by kernel_rfl
def i_WayThrough (p_n : GNet) (p_l : List GTower) (p_a : Int) (p_b : Int) (p_t : Int) : Option ((List Int) × Bool) :=
 (i_wayAsked p_n p_l p_a p_b p_t).bind fun r1 =>
 bif (!r1) then
 some ([], false)
 else
 (i_arrivals p_n p_l p_a p_t).bind fun r2 =>
 bif decide (0 ≤ p_b) && decide (p_b < (r2.length : Int)) then
 (r2[(Int.toNat p_b)]?).bind fun e3 =>
 bif (decide (e3 < 0)) then
 some ([], false)
 else
 (loopE (fun (st5 : (List Int) × (List Int) × Int) => (
 bif (!decide (st5.2.2 = p_a)) then
 (loopE (fun (st7 : (List Int) × (List Int) × Int × Int) => (
 bif (decide (st7.2.2.2 < (p_n.1.length : Int))) then
 (i_linkIndex p_n st7.2.2.2 st7.2.2.1).bind fun r8 =>
 (bif (decide (0 ≤ r8)) then
 bif decide (0 ≤ st7.2.2.2) && decide (st7.2.2.2 < (st7.1.length : Int)) then
 (st7.1[(Int.toNat st7.2.2.2)]?).bind fun e9 =>
 some (decide (0 ≤ e9))
 else
 none
 else
 some false).bind fun c10 =>
 (bif c10 then
 bif decide (0 ≤ st7.2.2.2) && decide (st7.2.2.2 < (st7.1.length : Int)) then
 (st7.1[(Int.toNat st7.2.2.2)]?).bind fun e11 =>
 (i_goOver p_n p_l r8 e11).bind fun r12 =>
 bif decide (0 ≤ st7.2.2.1) && decide (st7.2.2.1 < (st7.1.length : Int)) then
 (st7.1[(Int.toNat st7.2.2.1)]?).bind fun e13 =>
 some (decide (r12 = e13))
 else
 none
 else
 none
 else
 some false).bind fun c14 =>
 bif c14 then
 some (.inr (st7.1, st7.2.1, st7.2.2.2))
 else
 some (.inl (st7.1, st7.2.1, st7.2.2.1, (w64 (st7.2.2.2 + 1))))
 else
 some (.inr (st7.1, st7.2.1, st7.2.2.1)) : Option (((List Int) × (List Int) × Int × Int) ⊕ (((List Int) × (List Int) × Int))))) (st5.1, st5.2.1, st5.2.2, 0)).bind fun o15 =>
 bif decide (List.length o15.2.1 + List.length [o15.2.2] ≤ lim) then
 some (.inl (o15.1, (o15.2.1 ++ [o15.2.2]), o15.2.2))
 else
 none
 else
 some (.inr st5.2.1) : Option (((List Int) × (List Int) × Int) ⊕ ((List Int))))) (r2, [p_b], p_b)).bind fun o16 =>
 (slices_Reverse_int o16).bind fun r17 =>
 some (r17, true)
 else
 none
def C158 : FnSpec := { ps := [.val TGNet, .val (.slice TGTower), .val (.int .i64), .val (.int .i64), .val (.int .i64)], rs := [.own (.slice (.int .i64)), .val .bool], fn := fun x => i_WayThrough x.1 x.2.1 x.2.2.1 x.2.2.2.1 x.2.2.2.2 }
def E158 : Env := { T := [(3, (.int .i64)), (26, (.slice (.int .i64))), (43, (.slice TGTower)), (46, TGNet)], G := [(217, C217), (218, C218), (219, C219), (220, C220), (221, C221)], ro := [5], loops := [(8, { keep := [1, 2, 5], live := [.own 12 [] 448 (.int .i64) true, .own 13 [] 560 (.int .i64) true, .tv 14 (.int .i64)], outs := [(.exit 0, [.own 13 [] 560 (.int .i64) true])] }), (10, { keep := [1, 2, 5, 42], live := [.own 12 [] 448 (.int .i64) true, .own 13 [] 560 (.int .i64) true, .tv 14 (.int .i64), .tv 43 (.int .i64)], outs := [(.exit 2, [.own 12 [] 448 (.int .i64) true, .own 13 [] 560 (.int .i64) true, .tv 14 (.int .i64)])] })], joins := [] }
theorem S158 : Sound Tryz.prog 158 C158 := fun_sound (E := E158) ⟨good_T (by kernel_rfl), (good_cons S217 ⟨_, Tryz.func217, by kernel_rfl, by kernel_rfl⟩ (good_cons S218 ⟨_, Tryz.func218, by kernel_rfl, by kernel_rfl⟩ (good_cons S219 ⟨_, Tryz.func219, by kernel_rfl, by kernel_rfl⟩ (good_cons S220 ⟨_, Tryz.func220, by kernel_rfl, by kernel_rfl⟩ (good_cons S221 ⟨_, Tryz.func221, by kernel_rfl, by kernel_rfl⟩ good_nil))))), mixedOk, ins_nil⟩ Tryz.func158 rfl fun _ => by kernel_rfl
def slices_Clone_Shift (p_s : List GTower) : Option ((List GTower)) :=
 bif List.isEmpty p_s then
 bothSame (
 bif true then
 some []
 else
 bif decide (List.length p_s ≤ lim) then
 some p_s
 else
 none)
 (
 bif false then
 some []
 else
 bif decide (List.length p_s ≤ lim) then
 some p_s
 else
 none)
 else
 bif false then
 some []
 else
 bif decide (List.length p_s ≤ lim) then
 some p_s
 else
 none
def C160 : FnSpec := { ps := [.val (.slice TGTower)], rs := [.own (.slice TGTower)], fn := fun x => slices_Clone_Shift x }
def E160 : Env := { T := [(68, (.slice TGTower))], G := [], ro := [], loops := [], joins := [] }
theorem S160 : Sound Tryz.prog 160 C160 := fun_sound (E := E160) ⟨good_T (by kernel_rfl), good_nil, mixedOk, ins_nil⟩ Tryz.func160 rfl fun _ => by kernel_rfl
def i_compareShifts (p_a : GTower) (p_b : GTower) : Option (Int) :=
 (cmp_Compare_int p_a.2.1 p_b.2.1).bind fun r1 =>
 (cmp_Compare_int p_a.1 p_b.1).bind fun r2 =>
 (cmp_Or_int [r1, r2]).bind fun r3 =>
 some r3
def C223 : FnSpec := { ps := [.val TGTower, .val TGTower], rs := [.val (.int .i64)], fn := fun x => i_compareShifts x.1 x.2 }
def E223 : Env := { T := [(3, (.int .i64)), (26, (.slice (.int .i64))), (159, TGTower)], G := [(86, C86), (87, C87)], ro := [2, 3], loops := [], joins := [] }
theorem S223 : Sound Tryz.prog 223 C223 := fun_sound (E := E223) ⟨good_T (by kernel_rfl), (good_cons S86 ⟨_, Tryz.func86, by kernel_rfl, by kernel_rfl⟩ (good_cons S87 ⟨_, Tryz.func87, by kernel_rfl, by kernel_rfl⟩ good_nil)), mixedOk, ins_nil⟩ Tryz.func223 rfl fun _ => by kernel_rfl
def i_AreShifts_1 (p_y : GTower) (p_a1 : GTower) : Option (Bool) :=
 (bif (decide (p_y.1 = p_a1.1)) then
 some (decide (p_a1.2.1 < p_y.2.2.1))
 else
 some false).bind fun c1 =>
 some c1
def C284 : FnSpec := { ps := [.val TGTower, .rp TGTower], rs := [.val .bool], fn := fun x => i_AreShifts_1 x.1 x.2 }
def E284 : Env := { T := [(3, (.int .i64)), (159, TGTower)], G := [], ro := [2], loops := [], joins := [] }
theorem S284 : Sound Tryz.prog 284 C284 := fun_sound (E := E284) ⟨good_T (by kernel_rfl), good_nil, mixedOk, ins_nil⟩ Tryz.func284 rfl fun _ => by kernel_rfl
def slices_IndexFunc_Shift_284 (p_s : List GTower) (p_f : GTower × Unit) : Option (Int) :=
 (loopE (fun (st2 : Int) => (
 bif (decide (st2 < (p_s.length : Int))) then
 (idx p_s st2).bind fun e3 =>
 (i_AreShifts_1 e3 p_f.1).bind fun r4 =>
 bif r4 then
 some (.inr (.inr st2))
 else
 some (.inl (w64 (st2 + 1)))
 else
 some (.inr (.inl ())) : Option ((Int) ⊕ (Unit ⊕ Int)))) 0).bind fun o5 =>
 match o5 with
 | .inl _ =>
  some (-1)
 | .inr y7 =>
  some y7
def C331_284 : FnSpec := { ps := [.val (.slice TGTower), .fn 284 [TGTower]], rs := [.val (.int .i64)], fn := fun x => slices_IndexFunc_Shift_284 x.1 x.2 }
def E331_284 : Env := { T := [(68, (.slice TGTower)), (159, TGTower)], G := [(284, C284)], ro := [], loops := [(2, { keep := [0, 1, 7], live := [.tv 8 (.int .i64)], outs := [(.exit 0, []), (.ret, [.tv 4 (.int .i64)])] })], joins := [] }
theorem S331_284 : Sound Tryz.prog 331 C331_284 := fun_sound (E := E331_284) ⟨good_T (by kernel_rfl), (good_cons S284 ⟨_, Tryz.func284, by kernel_rfl, by kernel_rfl⟩ good_nil), mixedOk, ins_nil⟩ Tryz.func331 rfl fun _ => by kernel_rfl
def slices_ContainsFunc_Shift_284 (p_s : List GTower) (p_f : GTower × Unit) : Option (Bool) :=
 (slices_IndexFunc_Shift_284 p_s p_f).bind fun r1 =>
 some (decide (0 ≤ r1))
def C283_284 : FnSpec := { ps := [.val (.slice TGTower), .fn 284 [TGTower]], rs := [.val .bool], fn := fun x => slices_ContainsFunc_Shift_284 x.1 x.2 }
def E283_284 : Env := { T := [], G := [(331, C331_284)], ro := [], loops := [], joins := [] }
theorem S283_284 : Sound Tryz.prog 283 C283_284 := fun_sound (E := E283_284) ⟨good_T (by kernel_rfl), (good_cons S331_284 ⟨_, Tryz.func331, by kernel_rfl, by kernel_rfl⟩ good_nil), mixedOk, ins_nil⟩ Tryz.func283 rfl fun _ => by kernel_rfl
def i_AreShifts (p_l : List GTower) : Option (Bool) :=
 bif (decide (60 < (p_l.length : Int))) then
 some false
 else
 (loopE (fun (st2 : Int) => (
 bif (decide (st2 < (p_l.length : Int))) then
 (idx p_l st2).bind fun e3 =>
 (i_within e3.1 1 30).bind fun r4 =>
 (bif (!r4) then
 some true
 else
 some (decide (e3.2.1 < 0))).bind fun c5 =>
 (bif c5 then
 some true
 else
 some (decide (e3.2.2.1 ≤ e3.2.1))).bind fun c6 =>
 (bif c6 then
 some true
 else
 some (decide (168 < e3.2.2.1))).bind fun c7 =>
 (bif c7 then
 some true
 else
 (bif (decide (0 < st2)) then
 (idx p_l (w64 (st2 - 1))).bind fun e8 =>
 (i_compareShifts e8 e3).bind fun r9 =>
 some (decide (0 ≤ r9))
 else
 some false).bind fun c10 =>
 some c10).bind fun c11 =>
 bif c11 then
 some (.inr (.inr false))
 else
 (sub p_l 0 st2).bind fun l12 =>
 (slices_ContainsFunc_Shift_284 l12 (e3, ())).bind fun r13 =>
 bif r13 then
 some (.inr (.inr false))
 else
 some (.inl (w64 (st2 + 1)))
 else
 some (.inr (.inl ())) : Option ((Int) ⊕ (Unit ⊕ Bool)))) 0).bind fun o14 =>
 match o14 with
 | .inl _ =>
  some true
 | .inr y16 =>
  some y16
def C224 : FnSpec := { ps := [.val (.slice TGTower)], rs := [.val .bool], fn := fun x => i_AreShifts x }
def E224 : Env := { T := [(3, (.int .i64)), (68, (.slice TGTower)), (159, TGTower)], G := [(67, C67), (223, C223), (283, C283_284)], ro := [], loops := [(4, { keep := [0, 8, 9], live := [.tv 10 (.int .i64)], outs := [(.exit 0, []), (.ret, [.tv 2 .bool])] })], joins := [], preb := [(8, [(64, TGTower)])] }
theorem S224 : Sound Tryz.prog 224 C224 := fun_sound (E := E224) ⟨good_T (by kernel_rfl), (good_cons S67 ⟨_, Tryz.func67, by kernel_rfl, by kernel_rfl⟩ (good_cons S223 ⟨_, Tryz.func223, by kernel_rfl, by kernel_rfl⟩ (good_cons S283_284 ⟨_, Tryz.func283, by kernel_rfl, by kernel_rfl⟩ good_nil))), mixedOk, ins_nil⟩ Tryz.func224 rfl fun _ => by kernel_rfl
noncomputable def sortedF (l : List GTower) : Option (List GTower × Bool) :=
  bif decide (l.length < 4611686018427387904) then (i_AreShifts (pdqL cmpS l)).map fun b => bif b then (pdqL cmpS l, true) else ([], false)
  else none
noncomputable def ShiftD : DelFn := { t := TGTower, g := 0, keep := fun _ => true, out := some sortedF }
set_option maxHeartbeats 1000000 in
theorem sorted_yes (w : World) (v : Value) (K1 K2 : World → Prop) (hS : Calls Tryz.prog 222 #[v, .func (.func 223) #[] #[]] w fun e w' => e = .returned (.tuple #[]) ∧ K1 w') (hA : ∀ W, K1 W → Calls Tryz.prog 224 #[v] W fun e w' => e = .returned (.bool true) ∧ K2 w') :
    Calls Tryz.prog 159 #[v] w fun e w' => e = .returned (.tuple #[v, .bool true]) ∧ K2 w' := by
  go_enter Tryz.func159, Tryz.ntmps159
  go_wp2_with (first | (go_at_call 222; refine hS.mono ?_; rintro e w' ⟨rfl, hK⟩) | (go_at_call 224; refine (hA _ hK).mono ?_; rintro e w' ⟨rfl, hK2⟩))
  go_ret2
  exact ⟨rfl, hK2⟩
set_option maxHeartbeats 1000000 in
theorem sorted_no (w : World) (v : Value) (K1 K2 : World → Prop) (hS : Calls Tryz.prog 222 #[v, .func (.func 223) #[] #[]] w fun e w' => e = .returned (.tuple #[]) ∧ K1 w') (hA : ∀ W, K1 W → Calls Tryz.prog 224 #[v] W fun e w' => e = .returned (.bool false) ∧ K2 w') :
    Calls Tryz.prog 159 #[v] w fun e w' => e = .returned (.tuple #[.slice none 0 0, .bool false]) ∧ K2 w' := by
  go_enter Tryz.func159, Tryz.ntmps159
  go_wp2_with (first | (go_at_call 222; refine hS.mono ?_; rintro e w' ⟨rfl, hK⟩) | (go_at_call 224; refine (hA _ hK).mono ?_; rintro e w' ⟨rfl, hK2⟩))
  go_ret2
  exact ⟨rfl, hK2⟩
theorem ShiftDOk : DelOk Tryz.prog 159 ShiftD := by
  refine ⟨(fun h => by cases h), ?_⟩
  rintro G hG w v xs ys b F hT hv hF hr
  obtain rfl : sortedF = G := by injection hG
  unfold sortedF at hr
  cases hx : decide ((show List GTower from xs).length < 4611686018427387904) with
  | false => rw [hx] at hr; cases hr
  | true =>
    rw [hx, cond_true] at hr
    have hx := of_decide_eq_true hx
    cases hq : i_AreShifts (pdqL cmpS xs) with
    | none => rw [hq] at hr; cases hr
    | some c =>
      rw [hq] at hr
      have hr : (bif c then (pdqL cmpS xs, true) else ([], false)) = (ys, b) := by injection hr
      have ho : OTy w (.slice T3) v xs F := ⟨[v], rfl, v, rfl, hv⟩
      have hS := shift_sort ho hx
      have hA : ∀ W, (∃ FM, Past w W F ∧ OTy W (.slice T3) v (pdqL cmpS xs) FM ∧ ∀ q, FM q → F q) → Calls Tryz.prog 224 #[v] W fun e w' => e = .returned (.bool c) ∧ ∃ FM, Past w w' F ∧ OTy w' (.slice T3) v (pdqL cmpS xs) FM ∧ ∀ q, FM q → F q := by
        rintro W ⟨FM, hp, hown, hFM⟩
        obtain ⟨cs, hvv, hO⟩ := hown
        have hlt : ∀ q, FM q → q < W.heap.size := fun q hq => Nat.lt_of_lt_of_le (hF q (hFM q hq)) hp.size
        have hTW : TabOk W W.heap.size (fun _ => False) := fun p hp' => by
          obtain ⟨k1, k2, o, k3, k4⟩ := hT p hp'
          exact ⟨Nat.lt_of_lt_of_le k1 hp.size, fun h => h, o, (hp.block _ k1 k2).trans k3, k4⟩
        refine (S224 W [v] (pdqL cmpS xs) c FM (fun _ => False) hTW hlt ⟨v, [], rfl, ⟨cs, hvv, hO.rep fun _ h => h⟩, rfl, fun _ h => h⟩ (fun _ h => h.elim) hq).mono fun e w' hk => ?_
        obtain ⟨vs, S', FM', FR, rfl, g1, g2, g3, ⟨g4, g5⟩, g6, g7⟩ := hk
        obtain ⟨v1, r1, rfl, ⟨ds, rfl, rfl⟩, rfl, _⟩ := g5
        refine ⟨rfl, FM, ⟨g1.os.trans hp.os, g1.tape.trans hp.tape, g1.output.trans hp.output, Nat.le_trans hp.size g1.size, fun q hq hn => (g1.block q (Nat.lt_of_lt_of_le hq hp.size) fun h => h).trans (hp.block q hq hn), fun a ha => (g1.fz a (Nat.lt_of_lt_of_le ha hp.size)).trans (hp.fz a ha)⟩, ⟨cs, hvv, hO.mono fun q hq => g1.block q (hlt q hq) fun h => h⟩, hFM⟩
      have hS' : Calls Tryz.prog 222 #[v, .func (.func 223) #[] #[]] w fun e w' => e = .returned (.tuple #[]) ∧ ∃ FM, Past w w' F ∧ OTy w' (.slice T3) v (pdqL cmpS xs) FM ∧ ∀ q, FM q → F q := hS.mono fun e w' ⟨FM, k1, k2⟩ => ⟨k1, FM, k2⟩
      cases c with
      | true =>
        rw [cond_true] at hr
        cases hr
        refine (sorted_yes w v _ _ hS' hA).mono fun e w' hk => ?_
        obtain ⟨rfl, FM, hp, ⟨cs, hvv, v0, rfl, hO⟩, hFM⟩ := hk
        have hvv : v = v0 := hvv
        subst hvv
        exact ⟨v, FM, rfl, hp.size, fun q hq hn => hp.block q hq hn, hp.os, hp.tape, hp.output, hp.fz, hO, fun q hq => .inl (hFM q hq)⟩
      | false =>
        rw [cond_false] at hr
        cases hr
        refine (sorted_no w v _ _ hS' hA).mono fun e w' hk => ?_
        obtain ⟨rfl, FM, hp, _, _⟩ := hk
        exact ⟨.slice none 0 0, fun _ => False, rfl, hp.size, fun q hq hn => hp.block q hq hn, hp.os, hp.tape, hp.output, hp.fz, .inl ⟨⟨none, rfl⟩, rfl, fun _ h => h⟩, fun _ h => h.elim⟩
def i_OnDutyAt (p_l : List GTower) (p_hour : Int) : Option ((List Int) × Bool) :=
 (i_AreShifts p_l).bind fun r1 =>
 (bif (!r1) then
 some true
 else
 (i_within p_hour 0 167).bind fun r2 =>
 some (!r2)).bind fun c3 =>
 bif c3 then
 some ([], false)
 else
 (loopE (fun (st5 : (List Int) × Int) => (
 bif (decide (st5.2 < (p_l.length : Int))) then
 (idx p_l st5.2).bind fun e6 =>
 (bif (decide (e6.2.1 ≤ p_hour)) then
 some (decide (p_hour < e6.2.2.1))
 else
 some false).bind fun c7 =>
 bif c7 then
 bif decide (List.length st5.1 + List.length [e6.1] ≤ lim) then
 some (.inl ((st5.1 ++ [e6.1]), (w64 (st5.2 + 1))))
 else
 none
 else
 some (.inl (st5.1, (w64 (st5.2 + 1))))
 else
 some (.inr st5.1) : Option (((List Int) × Int) ⊕ ((List Int))))) ([], 0)).bind fun o8 =>
 (sortIntF o8).bind fun r9 =>
 some (r9, true)
def C161 : FnSpec := { ps := [.val (.slice TGTower), .val (.int .i64)], rs := [.own (.slice (.int .i64)), .val .bool], fn := fun x => i_OnDutyAt x.1 x.2 }
def E161 : Env := { T := [(3, (.int .i64)), (26, (.slice (.int .i64))), (68, (.slice TGTower)), (159, TGTower)], G := [(67, C67), (224, C224), (225, C225)], ro := [], loops := [(5, { keep := [1, 17, 18], live := [.own 6 [] 200006 (.int .i64) true, .tv 19 (.int .i64)], outs := [(.exit 0, [.own 6 [] 200006 (.int .i64) true])] })], joins := [] }
theorem S161 : Sound Tryz.prog 161 C161 := fun_sound (E := E161) ⟨good_T (by kernel_rfl), (good_cons S67 ⟨_, Tryz.func67, by kernel_rfl, by kernel_rfl⟩ (good_cons S224 ⟨_, Tryz.func224, by kernel_rfl, by kernel_rfl⟩ (good_cons S225 ⟨_, Tryz.func225, by kernel_rfl, by kernel_rfl⟩ good_nil))), mixedOk, ins_nil⟩ Tryz.func161 rfl fun _ => by kernel_rfl
def i_scriptState_netLine (p_s : GscriptStateR) (p_name : Bytes) (p_n : List Int) : Option (GscriptStateR × Bytes × Bool) :=
 bif (decide (p_name = w_tower)) then
 (i_cloneNet p_s.1).bind fun r1 =>
 (idx p_n 0).bind fun e2 =>
 (idx p_n 1).bind fun e3 =>
 (idx p_n 2).bind fun e4 =>
 bif decide (List.length r1.1 + List.length [(e2, e3, e4, ())] ≤ lim) then
 (i_IsNet ((r1.1 ++ [(e2, e3, e4, ())]), r1.2)).bind fun r5 =>
 bif (!r5) then
 some (p_s, [], false)
 else
 some ((((r1.1 ++ [(e2, e3, e4, ())]), r1.2), p_s.2), ([111, 107] : Bytes), true)
 else
 none
 else
 bif (decide (p_name = w_link)) then
 (idx p_n 0).bind fun e6 =>
 (idx p_n 1).bind fun e7 =>
 (idx p_n 2).bind fun e8 =>
 (i_AddLink p_s.1 (e6, e7, e8, ())).bind fun r9 =>
 (bif (!r9.2) then
 some true
 else
 some (decide (0 < (p_s.2.1.length : Int)))).bind fun c10 =>
 bif c10 then
 some (p_s, [], false)
 else
 some ((r9.1, p_s.2), ([111, 107] : Bytes), true)
 else
 bif (decide (p_name = w_fog)) then
 (idx p_n 0).bind fun e11 =>
 (idx p_n 1).bind fun e12 =>
 (idx p_n 2).bind fun e13 =>
 (i_AddFog p_s.1 p_s.2.1 (e11, e12, e13, ())).bind fun r14 =>
 bif (!r14.2) then
 some (p_s, [], false)
 else
 some ((p_s.1, r14.1, p_s.2.2), ([111, 107] : Bytes), true)
 else
 bif (decide (p_name = w_first)) then
 (idx p_n 0).bind fun e15 =>
 (idx p_n 1).bind fun e16 =>
 (idx p_n 2).bind fun e17 =>
 (i_FirstArrival p_s.1 p_s.2.1 e15 e16 e17).bind fun r18 =>
 (itoaF r18.1).bind fun r19 =>
 some (p_s, r19, r18.2)
 else
 bif (decide (p_name = w_way)) then
 (idx p_n 0).bind fun e20 =>
 (idx p_n 1).bind fun e21 =>
 (idx p_n 2).bind fun e22 =>
 (i_WayThrough p_s.1 p_s.2.1 e20 e21 e22).bind fun r23 =>
 (i_joinNumbers r23.1 ([32] : Bytes)).bind fun r24 =>
 some (p_s, r24, r23.2)
 else
 bif (decide (p_name = w_shift)) then
 (slices_Clone_Shift p_s.2.2.2.2.2.1).bind fun r25 =>
 (idx p_n 0).bind fun e26 =>
 (idx p_n 1).bind fun e27 =>
 (idx p_n 2).bind fun e28 =>
 bif decide (List.length r25 + List.length [(e26, e27, e28, ())] ≤ lim) then
 (sortedF (r25 ++ [(e26, e27, e28, ())])).bind fun r29 =>
 bif (!r29.2) then
 some (p_s, [], false)
 else
 some ((p_s.1, p_s.2.1, p_s.2.2.1, p_s.2.2.2.1, p_s.2.2.2.2.1, r29.1, p_s.2.2.2.2.2.2), ([111, 107] : Bytes), true)
 else
 none
 else
 bif (decide (p_name = w_duty)) then
 (idx p_n 0).bind fun e30 =>
 (i_OnDutyAt p_s.2.2.2.2.2.1 e30).bind fun r31 =>
 (bif r31.2 then
 some (decide ((r31.1.length : Int) = 0))
 else
 some false).bind fun c32 =>
 bif c32 then
 some (p_s, w_none, true)
 else
 (i_joinNumbers r31.1 ([32] : Bytes)).bind fun r33 =>
 some (p_s, r33, r31.2)
 else
 bif (decide (p_name = w_towers)) then
 (i_joinNumbers [(p_s.1.1.length : Int), (p_s.1.2.1.length : Int)] ([32] : Bytes)).bind fun r34 =>
 some (p_s, r34, true)
 else
 some (p_s, ([111, 107] : Bytes), true)
def C112 : FnSpec := { ps := [.obox TGscriptStateR, .val .str, .val (.slice (.int .i64))], rs := [.val .str, .val .bool], fn := fun x => i_scriptState_netLine x.1 x.2.1 x.2.2 }
def E112 : Env := { T := [(3, (.int .i64)), (26, (.slice (.int .i64))), (43, (.slice TGTower)), (44, (.slice TGTower)), (46, TGNet), (65, (.slice TGTower)), (68, (.slice TGTower)), (71, TGscriptStateR), (104, TGTower), (106, TGTower), (155, TGTower), (159, TGTower)], G := [(43, C43), (143, C143), (146, C146), (154, C154), (155, C155), (156, C156), (157, C157), (158, C158), (160, C160), (161, C161)], ro := [], loops := [], joins := [], del := [(159, ShiftD)], swaps := [(9, [(17, 19)])] }
theorem S112 : Sound Tryz.prog 112 C112 := fun_sound_obox (E := E112) ⟨good_T (by kernel_rfl), (good_cons S43 ⟨_, Tryz.func43, by kernel_rfl, by kernel_rfl⟩ (good_cons S143 ⟨_, Tryz.func143, by kernel_rfl, by kernel_rfl⟩ (good_cons S146 ⟨_, Tryz.func146, by kernel_rfl, by kernel_rfl⟩ (good_cons S154 ⟨_, Tryz.func154, by kernel_rfl, by kernel_rfl⟩ (good_cons S155 ⟨_, Tryz.func155, by kernel_rfl, by kernel_rfl⟩ (good_cons S156 ⟨_, Tryz.func156, by kernel_rfl, by kernel_rfl⟩ (good_cons S157 ⟨_, Tryz.func157, by kernel_rfl, by kernel_rfl⟩ (good_cons S158 ⟨_, Tryz.func158, by kernel_rfl, by kernel_rfl⟩ (good_cons S160 ⟨_, Tryz.func160, by kernel_rfl, by kernel_rfl⟩ (good_cons S161 ⟨_, Tryz.func161, by kernel_rfl, by kernel_rfl⟩ good_nil)))))))))), mixedOk, (del_cons ShiftDOk ⟨_, Tryz.func159, by kernel_rfl, by kernel_rfl⟩ ins_nil)⟩ Tryz.func112 rfl rfl fun _ => by kernel_rfl
def i_scriptState_reply (p_s : GscriptStateR) (p_line : Bytes) : Option (GscriptStateR × Bytes) :=
 (splitF p_line ([32] : Bytes)).bind fun r1 =>
 (idx r1 0).bind fun e2 =>
 (sub r1 1 (r1.length : Int)).bind fun l3 =>
 (((bif (decide (e2 = w_phrase)) then
 some true
 else
 some (decide (e2 = w_code))).bind fun c4 =>
 bif c4 then
 (bif (decide ((l3.length : Int) = 0)) then
 some true
 else
 (idx l3 0).bind fun e5 =>
 (i_isScriptWord e5).bind fun r6 =>
 some (!r6)).bind fun c7 =>
 bif c7 then
 some (.inr (p_s.1.1, p_s.1.2.1, p_s.2.1, p_s.2.2.1.1, p_s.2.2.2.1.1, p_s.2.2.2.1.2.1, p_s.2.2.2.1.2.2.1, p_s.2.2.2.2.1, p_s.2.2.2.2.2.1, p_s.2.2.2.2.2.2.1, w_what))
 else
 (idx l3 0).bind fun e8 =>
 (sub l3 1 (l3.length : Int)).bind fun l9 =>
 some (.inl (p_s.1.1, p_s.1.2.1, p_s.2.1, p_s.2.2.1.1, p_s.2.2.2.1.1, p_s.2.2.2.1.2.1, p_s.2.2.2.1.2.2.1, p_s.2.2.2.2.1, p_s.2.2.2.2.2.1, p_s.2.2.2.2.2.2.1, l9, e8))
 else
 some (.inl (p_s.1.1, p_s.1.2.1, p_s.2.1, p_s.2.2.1.1, p_s.2.2.2.1.1, p_s.2.2.2.1.2.1, p_s.2.2.2.1.2.2.1, p_s.2.2.2.2.1, p_s.2.2.2.2.2.1, p_s.2.2.2.2.2.2.1, l3, [])) : Option (((List GTower) × (List GTower) × (List GTower) × (List GPhrase) × Int × Int × (List Int) × (List GTicket) × (List GTower) × Value × (List Bytes) × Bytes) ⊕ ((List GTower) × (List GTower) × (List GTower) × (List GPhrase) × Int × Int × (List Int) × (List GTicket) × (List GTower) × Value × Bytes)))).bind fun j10 =>
 match j10 with
 | .inl x11 =>
  bif decide (0 ≤ (x11.2.2.2.2.2.2.2.2.2.2.1.length : Int)) && decide ((x11.2.2.2.2.2.2.2.2.2.2.1.length : Int) ≤ (x11.2.2.2.2.2.2.2.2.2.2.1.length : Int)) && decide ((x11.2.2.2.2.2.2.2.2.2.2.1.length : Int) ≤ lim) then
  (loopE (fun (st14 : (List GTower) × (List GTower) × (List GTower) × (List GPhrase) × Int × Int × (List Int) × (List GTicket) × (List GTower) × Value × (List Int) × Int) => (
  bif (decide (st14.2.2.2.2.2.2.2.2.2.2.2 < (x11.2.2.2.2.2.2.2.2.2.2.1.length : Int))) then
  (idx x11.2.2.2.2.2.2.2.2.2.2.1 st14.2.2.2.2.2.2.2.2.2.2.2).bind fun e15 =>
  (readF e15).bind fun r16 =>
  (bif (!r16.2) then
  some true
  else
  some (decide (99999 < r16.1))).bind fun c17 =>
  bif c17 then
  some (.inr (.inr (st14.1, st14.2.1, st14.2.2.1, st14.2.2.2.1, st14.2.2.2.2.1, st14.2.2.2.2.2.1, st14.2.2.2.2.2.2.1, st14.2.2.2.2.2.2.2.1, st14.2.2.2.2.2.2.2.2.1, st14.2.2.2.2.2.2.2.2.2.1, w_what)))
  else
  bif decide (0 ≤ st14.2.2.2.2.2.2.2.2.2.2.2) && decide (st14.2.2.2.2.2.2.2.2.2.2.2 < (st14.2.2.2.2.2.2.2.2.2.2.1.length : Int)) then
  some (.inl (st14.1, st14.2.1, st14.2.2.1, st14.2.2.2.1, st14.2.2.2.2.1, st14.2.2.2.2.2.1, st14.2.2.2.2.2.2.1, st14.2.2.2.2.2.2.2.1, st14.2.2.2.2.2.2.2.2.1, st14.2.2.2.2.2.2.2.2.2.1, (st14.2.2.2.2.2.2.2.2.2.2.1.set (Int.toNat st14.2.2.2.2.2.2.2.2.2.2.2) r16.1), (w64 (st14.2.2.2.2.2.2.2.2.2.2.2 + 1))))
  else
  none
  else
  some (.inr (.inl (st14.1, st14.2.1, st14.2.2.1, st14.2.2.2.1, st14.2.2.2.2.1, st14.2.2.2.2.2.1, st14.2.2.2.2.2.2.1, st14.2.2.2.2.2.2.2.1, st14.2.2.2.2.2.2.2.2.1, st14.2.2.2.2.2.2.2.2.2.1, st14.2.2.2.2.2.2.2.2.2.2.1))) : Option (((List GTower) × (List GTower) × (List GTower) × (List GPhrase) × Int × Int × (List Int) × (List GTicket) × (List GTower) × Value × (List Int) × Int) ⊕ (((List GTower) × (List GTower) × (List GTower) × (List GPhrase) × Int × Int × (List Int) × (List GTicket) × (List GTower) × Value × (List Int)) ⊕ ((List GTower) × (List GTower) × (List GTower) × (List GPhrase) × Int × Int × (List Int) × (List GTicket) × (List GTower) × Value × Bytes))))) (x11.1, x11.2.1, x11.2.2.1, x11.2.2.2.1, x11.2.2.2.2.1, x11.2.2.2.2.2.1, x11.2.2.2.2.2.2.1, x11.2.2.2.2.2.2.2.1, x11.2.2.2.2.2.2.2.2.1, x11.2.2.2.2.2.2.2.2.2.1, (List.replicate (Int.toNat (x11.2.2.2.2.2.2.2.2.2.2.1.length : Int)) (0 : Int)), 0)).bind fun o18 =>
  match o18 with
  | .inl x19 =>
   (i_leastNumbers e2).bind fun r21 =>
   (i_mostNumbers e2).bind fun r22 =>
   (i_within (x19.2.2.2.2.2.2.2.2.2.2.length : Int) r21 r22).bind fun r23 =>
   bif (!r23) then
   some (((x19.1, x19.2.1, ()), x19.2.2.1, (x19.2.2.2.1, ()), (x19.2.2.2.2.1, x19.2.2.2.2.2.1, x19.2.2.2.2.2.2.1, ()), x19.2.2.2.2.2.2.2.1, x19.2.2.2.2.2.2.2.2.1, x19.2.2.2.2.2.2.2.2.2.1, ()), w_what)
   else
   (bif (decide (e2 = w_phrase)) then
   some (x19.1, x19.2.1, x19.2.2.1, x19.2.2.2.1, x19.2.2.2.2.1, x19.2.2.2.2.2.1, x19.2.2.2.2.2.2.1, x19.2.2.2.2.2.2.2.1, x19.2.2.2.2.2.2.2.2.1, x19.2.2.2.2.2.2.2.2.2.1, x19.2.2.2.2.2.2.2.2.2.2, (decide (e2 = w_phrase)))
   else
   bif (decide (e2 = w_code)) then
   some (x19.1, x19.2.1, x19.2.2.1, x19.2.2.2.1, x19.2.2.2.2.1, x19.2.2.2.2.2.1, x19.2.2.2.2.2.2.1, x19.2.2.2.2.2.2.2.1, x19.2.2.2.2.2.2.2.2.1, x19.2.2.2.2.2.2.2.2.2.1, x19.2.2.2.2.2.2.2.2.2.2, (decide (e2 = w_code)))
   else
   bif (decide (e2 = w_read)) then
   some (x19.1, x19.2.1, x19.2.2.1, x19.2.2.2.1, x19.2.2.2.2.1, x19.2.2.2.2.2.1, x19.2.2.2.2.2.2.1, x19.2.2.2.2.2.2.2.1, x19.2.2.2.2.2.2.2.2.1, x19.2.2.2.2.2.2.2.2.2.1, x19.2.2.2.2.2.2.2.2.2.2, (decide (e2 = w_read)))
   else
   some (x19.1, x19.2.1, x19.2.2.1, x19.2.2.2.1, x19.2.2.2.2.1, x19.2.2.2.2.2.1, x19.2.2.2.2.2.2.1, x19.2.2.2.2.2.2.2.1, x19.2.2.2.2.2.2.2.2.1, x19.2.2.2.2.2.2.2.2.2.1, x19.2.2.2.2.2.2.2.2.2.2, (decide (e2 = w_hide)))).bind fun j24 =>
   bif j24.2.2.2.2.2.2.2.2.2.2.2 then
   (i_scriptState_bookLine ((j24.1, j24.2.1, ()), j24.2.2.1, (j24.2.2.2.1, ()), (j24.2.2.2.2.1, j24.2.2.2.2.2.1, j24.2.2.2.2.2.2.1, ()), j24.2.2.2.2.2.2.2.1, j24.2.2.2.2.2.2.2.2.1, j24.2.2.2.2.2.2.2.2.2.1, ()) e2 x11.2.2.2.2.2.2.2.2.2.2.2 j24.2.2.2.2.2.2.2.2.2.2.1).bind fun r25 =>
   bif (!r25.2.2) then
   some (r25.1, ([110, 111] : Bytes))
   else
   some (r25.1, r25.2.1)
   else
   bif (decide (e2 = w_accept)) then
   bif (decide (e2 = w_accept)) then
   (i_scriptState_deskLine ((j24.1, j24.2.1, ()), j24.2.2.1, (j24.2.2.2.1, ()), (j24.2.2.2.2.1, j24.2.2.2.2.2.1, j24.2.2.2.2.2.2.1, ()), j24.2.2.2.2.2.2.2.1, j24.2.2.2.2.2.2.2.2.1, j24.2.2.2.2.2.2.2.2.2.1, ()) e2 j24.2.2.2.2.2.2.2.2.2.2.1).bind fun r26 =>
   bif (!r26.2.2) then
   some (r26.1, ([110, 111] : Bytes))
   else
   some (r26.1, r26.2.1)
   else
   (i_scriptState_netLine ((j24.1, j24.2.1, ()), j24.2.2.1, (j24.2.2.2.1, ()), (j24.2.2.2.2.1, j24.2.2.2.2.2.1, j24.2.2.2.2.2.2.1, ()), j24.2.2.2.2.2.2.2.1, j24.2.2.2.2.2.2.2.2.1, j24.2.2.2.2.2.2.2.2.2.1, ()) e2 j24.2.2.2.2.2.2.2.2.2.2.1).bind fun r27 =>
   bif (!r27.2.2) then
   some (r27.1, ([110, 111] : Bytes))
   else
   some (r27.1, r27.2.1)
   else
   bif (decide (e2 = w_arrived)) then
   bif (decide (e2 = w_arrived)) then
   (i_scriptState_deskLine ((j24.1, j24.2.1, ()), j24.2.2.1, (j24.2.2.2.1, ()), (j24.2.2.2.2.1, j24.2.2.2.2.2.1, j24.2.2.2.2.2.2.1, ()), j24.2.2.2.2.2.2.2.1, j24.2.2.2.2.2.2.2.2.1, j24.2.2.2.2.2.2.2.2.2.1, ()) e2 j24.2.2.2.2.2.2.2.2.2.2.1).bind fun r28 =>
   bif (!r28.2.2) then
   some (r28.1, ([110, 111] : Bytes))
   else
   some (r28.1, r28.2.1)
   else
   (i_scriptState_netLine ((j24.1, j24.2.1, ()), j24.2.2.1, (j24.2.2.2.1, ()), (j24.2.2.2.2.1, j24.2.2.2.2.2.1, j24.2.2.2.2.2.2.1, ()), j24.2.2.2.2.2.2.2.1, j24.2.2.2.2.2.2.2.2.1, j24.2.2.2.2.2.2.2.2.2.1, ()) e2 j24.2.2.2.2.2.2.2.2.2.2.1).bind fun r29 =>
   bif (!r29.2.2) then
   some (r29.1, ([110, 111] : Bytes))
   else
   some (r29.1, r29.2.1)
   else
   bif (decide (e2 = w_fail)) then
   bif (decide (e2 = w_fail)) then
   (i_scriptState_deskLine ((j24.1, j24.2.1, ()), j24.2.2.1, (j24.2.2.2.1, ()), (j24.2.2.2.2.1, j24.2.2.2.2.2.1, j24.2.2.2.2.2.2.1, ()), j24.2.2.2.2.2.2.2.1, j24.2.2.2.2.2.2.2.2.1, j24.2.2.2.2.2.2.2.2.2.1, ()) e2 j24.2.2.2.2.2.2.2.2.2.2.1).bind fun r30 =>
   bif (!r30.2.2) then
   some (r30.1, ([110, 111] : Bytes))
   else
   some (r30.1, r30.2.1)
   else
   (i_scriptState_netLine ((j24.1, j24.2.1, ()), j24.2.2.1, (j24.2.2.2.1, ()), (j24.2.2.2.2.1, j24.2.2.2.2.2.1, j24.2.2.2.2.2.2.1, ()), j24.2.2.2.2.2.2.2.1, j24.2.2.2.2.2.2.2.2.1, j24.2.2.2.2.2.2.2.2.2.1, ()) e2 j24.2.2.2.2.2.2.2.2.2.2.1).bind fun r31 =>
   bif (!r31.2.2) then
   some (r31.1, ([110, 111] : Bytes))
   else
   some (r31.1, r31.2.1)
   else
   bif (decide (e2 = w_where)) then
   (i_scriptState_deskLine ((j24.1, j24.2.1, ()), j24.2.2.1, (j24.2.2.2.1, ()), (j24.2.2.2.2.1, j24.2.2.2.2.2.1, j24.2.2.2.2.2.2.1, ()), j24.2.2.2.2.2.2.2.1, j24.2.2.2.2.2.2.2.2.1, j24.2.2.2.2.2.2.2.2.2.1, ()) e2 j24.2.2.2.2.2.2.2.2.2.2.1).bind fun r32 =>
   bif (!r32.2.2) then
   some (r32.1, ([110, 111] : Bytes))
   else
   some (r32.1, r32.2.1)
   else
   (i_scriptState_netLine ((j24.1, j24.2.1, ()), j24.2.2.1, (j24.2.2.2.1, ()), (j24.2.2.2.2.1, j24.2.2.2.2.2.1, j24.2.2.2.2.2.2.1, ()), j24.2.2.2.2.2.2.2.1, j24.2.2.2.2.2.2.2.2.1, j24.2.2.2.2.2.2.2.2.2.1, ()) e2 j24.2.2.2.2.2.2.2.2.2.2.1).bind fun r33 =>
   bif (!r33.2.2) then
   some (r33.1, ([110, 111] : Bytes))
   else
   some (r33.1, r33.2.1)
  | .inr y20 =>
   some (((y20.1, y20.2.1, ()), y20.2.2.1, (y20.2.2.2.1, ()), (y20.2.2.2.2.1, y20.2.2.2.2.2.1, y20.2.2.2.2.2.2.1, ()), y20.2.2.2.2.2.2.2.1, y20.2.2.2.2.2.2.2.2.1, y20.2.2.2.2.2.2.2.2.2.1, ()), y20.2.2.2.2.2.2.2.2.2.2)
  else
  none
 | .inr y12 =>
  some (((y12.1, y12.2.1, ()), y12.2.2.1, (y12.2.2.2.1, ()), (y12.2.2.2.2.1, y12.2.2.2.2.2.1, y12.2.2.2.2.2.2.1, ()), y12.2.2.2.2.2.2.2.1, y12.2.2.2.2.2.2.2.2.1, y12.2.2.2.2.2.2.2.2.2.1, ()), y12.2.2.2.2.2.2.2.2.2.2)
def C75 : FnSpec := { ps := [.obox TGscriptStateR, .val .str], rs := [.val .str], fn := fun x => i_scriptState_reply x.1 x.2 }
def E75 : Env := { T := [(3, (.int .i64)), (9, .str), (26, (.slice (.int .i64))), (69, (.slice .str))], G := [(67, C67), (105, C105), (106, C106), (107, C107), (108, C108), (109, C109), (110, C110), (111, C111), (112, C112)], ro := [], loops := [(10, { keep := [6, 7, 46, 47], live := [.bx 0 100000 [.own 100001 TGTower true, .own 100002 TGTower true, .own 100003 TGTower true, .own 100004 TGPhrase true, .pv (.int .i64), .pv (.int .i64), .own 100005 (.int .i64) true, .own 100006 TGTicket true, .own 100007 TGTower true, .pv .raw], .own 8 [] 720 (.int .i64) true, .tv 48 (.int .i64)], outs := [(.exit 0, [.bx 0 100000 [.own 100001 TGTower true, .own 100002 TGTower true, .own 100003 TGTower true, .own 100004 TGPhrase true, .pv (.int .i64), .pv (.int .i64), .own 100005 (.int .i64) true, .own 100006 TGTicket true, .own 100007 TGTower true, .pv .raw], .own 8 [] 720 (.int .i64) true]), (.ret, [.bx 0 100000 [.own 100001 TGTower true, .own 100002 TGTower true, .own 100003 TGTower true, .own 100004 TGPhrase true, .pv (.int .i64), .pv (.int .i64), .own 100005 (.int .i64) true, .own 100006 TGTicket true, .own 100007 TGTower true, .pv .raw], .tv 4 .str])] })], joins := [(8, { keep := [6], live := [], outs := [(.normal, [.bx 0 100000 [.own 100001 TGTower true, .own 100002 TGTower true, .own 100003 TGTower true, .own 100004 TGPhrase true, .pv (.int .i64), .pv (.int .i64), .own 100005 (.int .i64) true, .own 100006 TGTicket true, .own 100007 TGTower true, .pv .raw], .tv 5 (.slice .str), .tv 7 .str]), (.ret, [.bx 0 100000 [.own 100001 TGTower true, .own 100002 TGTower true, .own 100003 TGTower true, .own 100004 TGPhrase true, .pv (.int .i64), .pv (.int .i64), .own 100005 (.int .i64) true, .own 100006 TGTicket true, .own 100007 TGTower true, .pv .raw], .tv 4 .str])] }), (26, { keep := [6, 7, 77], live := [], outs := [(.normal, [.bx 0 100000 [.own 100001 TGTower true, .own 100002 TGTower true, .own 100003 TGTower true, .own 100004 TGPhrase true, .pv (.int .i64), .pv (.int .i64), .own 100005 (.int .i64) true, .own 100006 TGTicket true, .own 100007 TGTower true, .pv .raw], .own 8 [] 720 (.int .i64) true, .tv 85 .bool])] })], pre := [(2, [256])] }
theorem S75 : Sound Tryz.prog 75 C75 := fun_sound_obox (E := E75) ⟨good_T (by kernel_rfl), (good_cons S67 ⟨_, Tryz.func67, by kernel_rfl, by kernel_rfl⟩ (good_cons S105 ⟨_, Tryz.func105, by kernel_rfl, by kernel_rfl⟩ (good_cons S106 ⟨_, Tryz.func106, by kernel_rfl, by kernel_rfl⟩ (good_cons S107 ⟨_, Tryz.func107, by kernel_rfl, by kernel_rfl⟩ (good_cons S108 ⟨_, Tryz.func108, by kernel_rfl, by kernel_rfl⟩ (good_cons S109 ⟨_, Tryz.func109, by kernel_rfl, by kernel_rfl⟩ (good_cons S110 ⟨_, Tryz.func110, by kernel_rfl, by kernel_rfl⟩ (good_cons S111 ⟨_, Tryz.func111, by kernel_rfl, by kernel_rfl⟩ (good_cons S112 ⟨_, Tryz.func112, by kernel_rfl, by kernel_rfl⟩ good_nil))))))))), mixedOk, ins_nil⟩ Tryz.func75 rfl rfl fun _ => by kernel_rfl
end
end Go.Proofs.YtkemmodgpafkmaaGreatDoor.Sh
