/-
  The functions that the statement reaches, as plain functions; each with its contract: the second part.
-/
import Derived.Test.YtkemmodgpafkmaaGreatDoorSReply
namespace Go.Proofs.YtkemmodgpafkmaaGreatDoor.Sh
open Go Go.Ab Go.Proofs
set_option maxRecDepth 100000
noncomputable section
def s_l1Split (p_s : Bytes) (p_b : Int) : Option ((List Bytes)) :=
 (loopE (fun (st2 : (List Bytes) × Int × Int) => (
 bif (decide (st2.2.2 < (p_s.length : Int))) then
 (idx p_s st2.2.2).bind fun b3 =>
 bif (decide ((b3.toNat : Int) = p_b)) then
 (sub p_s st2.2.1 st2.2.2).bind fun l4 =>
 bif decide (List.length st2.1 + List.length [l4] ≤ lim) then
 some (.inl ((st2.1 ++ [l4]), (w64 (st2.2.2 + 1)), (w64 (st2.2.2 + 1))))
 else
 none
 else
 some (.inl (st2.1, st2.2.1, (w64 (st2.2.2 + 1))))
 else
 some (.inr (st2.1, st2.2.1)) : Option (((List Bytes) × Int × Int) ⊕ (((List Bytes) × Int))))) ([], 0, 0)).bind fun o5 =>
 (sub p_s o5.2 (p_s.length : Int)).bind fun l6 =>
 bif decide (List.length o5.1 + List.length [l6] ≤ lim) then
 some (o5.1 ++ [l6])
 else
 none
def C85 : FnSpec := { ps := [.val .str, .val (.int .u8)], rs := [.own (.slice .str)], fn := fun x => s_l1Split x.1 x.2 }
def E85 : Env := { T := [(9, .str), (69, (.slice .str))], G := [], ro := [], loops := [(4, { keep := [0, 1], live := [.own 5 [] 200005 .str true, .tv 6 (.int .i64), .tv 7 (.int .i64)], outs := [(.exit 0, [.own 5 [] 200005 .str true, .tv 6 (.int .i64)])] })], joins := [] }
theorem S85 : Sound Tryz.prog 85 C85 := fun_sound (E := E85) ⟨good_T (by kernel_rfl), good_nil, mixedOk, ins_nil⟩ Tryz.func85 rfl fun _ => by kernel_rfl
def s_csLines (p_script : Bytes) : Option ((List Bytes) × Bool) :=
 (bif (decide (2000 < (p_script.length : Int))) then
 some true
 else
 (bif (!decide (p_script = [])) then
 (idx p_script (w64 ((p_script.length : Int) - 1))).bind fun b1 =>
 some (!decide ((b1.toNat : Int) = 10))
 else
 some false).bind fun c2 =>
 some c2).bind fun c3 =>
 bif c3 then
 some ([], false)
 else
 (s_l1Split p_script 10).bind fun r4 =>
 (sub r4 0 (w64 ((r4.length : Int) - 1))).bind fun l5 =>
 bif (decide (40 < (l5.length : Int))) then
 some ([], false)
 else
 some (l5, true)
def C66 : FnSpec := { ps := [.val .str], rs := [.val (.slice .str), .val .bool], fn := fun x => s_csLines x }
def E66 : Env := { T := [(9, .str), (69, (.slice .str))], G := [(85, C85)], ro := [], loops := [], joins := [], pre := [(4, [336])] }
theorem S66 : Sound Tryz.prog 66 C66 := fun_sound (E := E66) ⟨good_T (by kernel_rfl), (good_cons S85 ⟨_, Tryz.func85, by kernel_rfl, by kernel_rfl⟩ good_nil), mixedOk, ins_nil⟩ Tryz.func66 rfl fun _ => by kernel_rfl
def s_csStart : Option (GcsState) :=
 some (([(0, 0, 20, ())], [], ()), [], ([(([97] : Bytes), [1], ())], ()), (7, 10, [], ()), [], [], [], [], 0, ())
def C73 : FnSpec := { ps := [], rs := [.ob TGcsState], fn := fun x => s_csStart }
def E73 : Env := { T := [(26, (.slice (.int .i64))), (36, (.slice TGPhrase)), (38, TGBook), (43, (.slice TGTower)), (46, TGNet), (67, TGKeyBook), (83, TGcsState), (104, TGTower), (108, TGPhrase)], G := [], ro := [], loops := [], joins := [], mv := true }
theorem S73 : Sound Tryz.prog 73 C73 := fun_sound (E := E73) ⟨good_T (by kernel_rfl), good_nil, mixedOk, ins_nil⟩ Tryz.func73 rfl fun _ => by kernel_rfl
def s_csCount (p_w : Bytes) : Option (Int × Int) :=
 (bif (decide (p_w = w_towers)) then
 some (decide (p_w = w_towers))
 else
 some (decide (p_w = w_code))).bind fun j1 =>
 bif j1 then
 some (0, 0)
 else
 bif (decide (p_w = w_fail)) then
 bif (decide (p_w = w_fail)) then
 some (1, 1)
 else
 bif (decide (p_w = w_accept)) then
 bif (decide (p_w = w_accept)) then
 some (2, 2)
 else
 bif (decide (p_w = w_tower)) then
 bif (decide (p_w = w_tower)) then
 some (3, 3)
 else
 bif (decide (p_w = w_phrase)) then
 some (1, 3)
 else
 bif (decide (p_w = w_read)) then
 bif (decide (p_w = w_read)) then
 some (1, 20)
 else
 some ((-1), (-1))
 else
 bif (decide (p_w = w_hide)) then
 some (1, 20)
 else
 some ((-1), (-1))
 else
 bif (decide (p_w = w_link)) then
 bif (decide (p_w = w_link)) then
 some (3, 3)
 else
 bif (decide (p_w = w_phrase)) then
 some (1, 3)
 else
 bif (decide (p_w = w_read)) then
 bif (decide (p_w = w_read)) then
 some (1, 20)
 else
 some ((-1), (-1))
 else
 bif (decide (p_w = w_hide)) then
 some (1, 20)
 else
 some ((-1), (-1))
 else
 bif (decide (p_w = w_fog)) then
 bif (decide (p_w = w_fog)) then
 some (3, 3)
 else
 bif (decide (p_w = w_phrase)) then
 some (1, 3)
 else
 bif (decide (p_w = w_read)) then
 bif (decide (p_w = w_read)) then
 some (1, 20)
 else
 some ((-1), (-1))
 else
 bif (decide (p_w = w_hide)) then
 some (1, 20)
 else
 some ((-1), (-1))
 else
 bif (decide (p_w = w_first)) then
 bif (decide (p_w = w_first)) then
 some (3, 3)
 else
 bif (decide (p_w = w_phrase)) then
 some (1, 3)
 else
 bif (decide (p_w = w_read)) then
 bif (decide (p_w = w_read)) then
 some (1, 20)
 else
 some ((-1), (-1))
 else
 bif (decide (p_w = w_hide)) then
 some (1, 20)
 else
 some ((-1), (-1))
 else
 bif (decide (p_w = w_way)) then
 bif (decide (p_w = w_way)) then
 some (3, 3)
 else
 bif (decide (p_w = w_phrase)) then
 some (1, 3)
 else
 bif (decide (p_w = w_read)) then
 bif (decide (p_w = w_read)) then
 some (1, 20)
 else
 some ((-1), (-1))
 else
 bif (decide (p_w = w_hide)) then
 some (1, 20)
 else
 some ((-1), (-1))
 else
 bif (decide (p_w = w_shift)) then
 some (3, 3)
 else
 bif (decide (p_w = w_phrase)) then
 some (1, 3)
 else
 bif (decide (p_w = w_read)) then
 bif (decide (p_w = w_read)) then
 some (1, 20)
 else
 some ((-1), (-1))
 else
 bif (decide (p_w = w_hide)) then
 some (1, 20)
 else
 some ((-1), (-1))
 else
 bif (decide (p_w = w_arrived)) then
 some (2, 2)
 else
 bif (decide (p_w = w_tower)) then
 bif (decide (p_w = w_tower)) then
 some (3, 3)
 else
 bif (decide (p_w = w_phrase)) then
 some (1, 3)
 else
 bif (decide (p_w = w_read)) then
 bif (decide (p_w = w_read)) then
 some (1, 20)
 else
 some ((-1), (-1))
 else
 bif (decide (p_w = w_hide)) then
 some (1, 20)
 else
 some ((-1), (-1))
 else
 bif (decide (p_w = w_link)) then
 bif (decide (p_w = w_link)) then
 some (3, 3)
 else
 bif (decide (p_w = w_phrase)) then
 some (1, 3)
 else
 bif (decide (p_w = w_read)) then
 bif (decide (p_w = w_read)) then
 some (1, 20)
 else
 some ((-1), (-1))
 else
 bif (decide (p_w = w_hide)) then
 some (1, 20)
 else
 some ((-1), (-1))
 else
 bif (decide (p_w = w_fog)) then
 bif (decide (p_w = w_fog)) then
 some (3, 3)
 else
 bif (decide (p_w = w_phrase)) then
 some (1, 3)
 else
 bif (decide (p_w = w_read)) then
 bif (decide (p_w = w_read)) then
 some (1, 20)
 else
 some ((-1), (-1))
 else
 bif (decide (p_w = w_hide)) then
 some (1, 20)
 else
 some ((-1), (-1))
 else
 bif (decide (p_w = w_first)) then
 bif (decide (p_w = w_first)) then
 some (3, 3)
 else
 bif (decide (p_w = w_phrase)) then
 some (1, 3)
 else
 bif (decide (p_w = w_read)) then
 bif (decide (p_w = w_read)) then
 some (1, 20)
 else
 some ((-1), (-1))
 else
 bif (decide (p_w = w_hide)) then
 some (1, 20)
 else
 some ((-1), (-1))
 else
 bif (decide (p_w = w_way)) then
 bif (decide (p_w = w_way)) then
 some (3, 3)
 else
 bif (decide (p_w = w_phrase)) then
 some (1, 3)
 else
 bif (decide (p_w = w_read)) then
 bif (decide (p_w = w_read)) then
 some (1, 20)
 else
 some ((-1), (-1))
 else
 bif (decide (p_w = w_hide)) then
 some (1, 20)
 else
 some ((-1), (-1))
 else
 bif (decide (p_w = w_shift)) then
 some (3, 3)
 else
 bif (decide (p_w = w_phrase)) then
 some (1, 3)
 else
 bif (decide (p_w = w_read)) then
 bif (decide (p_w = w_read)) then
 some (1, 20)
 else
 some ((-1), (-1))
 else
 bif (decide (p_w = w_hide)) then
 some (1, 20)
 else
 some ((-1), (-1))
 else
 bif (decide (p_w = w_where)) then
 bif (decide (p_w = w_where)) then
 some (1, 1)
 else
 bif (decide (p_w = w_accept)) then
 bif (decide (p_w = w_accept)) then
 some (2, 2)
 else
 bif (decide (p_w = w_tower)) then
 bif (decide (p_w = w_tower)) then
 some (3, 3)
 else
 bif (decide (p_w = w_phrase)) then
 some (1, 3)
 else
 bif (decide (p_w = w_read)) then
 bif (decide (p_w = w_read)) then
 some (1, 20)
 else
 some ((-1), (-1))
 else
 bif (decide (p_w = w_hide)) then
 some (1, 20)
 else
 some ((-1), (-1))
 else
 bif (decide (p_w = w_link)) then
 bif (decide (p_w = w_link)) then
 some (3, 3)
 else
 bif (decide (p_w = w_phrase)) then
 some (1, 3)
 else
 bif (decide (p_w = w_read)) then
 bif (decide (p_w = w_read)) then
 some (1, 20)
 else
 some ((-1), (-1))
 else
 bif (decide (p_w = w_hide)) then
 some (1, 20)
 else
 some ((-1), (-1))
 else
 bif (decide (p_w = w_fog)) then
 bif (decide (p_w = w_fog)) then
 some (3, 3)
 else
 bif (decide (p_w = w_phrase)) then
 some (1, 3)
 else
 bif (decide (p_w = w_read)) then
 bif (decide (p_w = w_read)) then
 some (1, 20)
 else
 some ((-1), (-1))
 else
 bif (decide (p_w = w_hide)) then
 some (1, 20)
 else
 some ((-1), (-1))
 else
 bif (decide (p_w = w_first)) then
 bif (decide (p_w = w_first)) then
 some (3, 3)
 else
 bif (decide (p_w = w_phrase)) then
 some (1, 3)
 else
 bif (decide (p_w = w_read)) then
 bif (decide (p_w = w_read)) then
 some (1, 20)
 else
 some ((-1), (-1))
 else
 bif (decide (p_w = w_hide)) then
 some (1, 20)
 else
 some ((-1), (-1))
 else
 bif (decide (p_w = w_way)) then
 bif (decide (p_w = w_way)) then
 some (3, 3)
 else
 bif (decide (p_w = w_phrase)) then
 some (1, 3)
 else
 bif (decide (p_w = w_read)) then
 bif (decide (p_w = w_read)) then
 some (1, 20)
 else
 some ((-1), (-1))
 else
 bif (decide (p_w = w_hide)) then
 some (1, 20)
 else
 some ((-1), (-1))
 else
 bif (decide (p_w = w_shift)) then
 some (3, 3)
 else
 bif (decide (p_w = w_phrase)) then
 some (1, 3)
 else
 bif (decide (p_w = w_read)) then
 bif (decide (p_w = w_read)) then
 some (1, 20)
 else
 some ((-1), (-1))
 else
 bif (decide (p_w = w_hide)) then
 some (1, 20)
 else
 some ((-1), (-1))
 else
 bif (decide (p_w = w_arrived)) then
 some (2, 2)
 else
 bif (decide (p_w = w_tower)) then
 bif (decide (p_w = w_tower)) then
 some (3, 3)
 else
 bif (decide (p_w = w_phrase)) then
 some (1, 3)
 else
 bif (decide (p_w = w_read)) then
 bif (decide (p_w = w_read)) then
 some (1, 20)
 else
 some ((-1), (-1))
 else
 bif (decide (p_w = w_hide)) then
 some (1, 20)
 else
 some ((-1), (-1))
 else
 bif (decide (p_w = w_link)) then
 bif (decide (p_w = w_link)) then
 some (3, 3)
 else
 bif (decide (p_w = w_phrase)) then
 some (1, 3)
 else
 bif (decide (p_w = w_read)) then
 bif (decide (p_w = w_read)) then
 some (1, 20)
 else
 some ((-1), (-1))
 else
 bif (decide (p_w = w_hide)) then
 some (1, 20)
 else
 some ((-1), (-1))
 else
 bif (decide (p_w = w_fog)) then
 bif (decide (p_w = w_fog)) then
 some (3, 3)
 else
 bif (decide (p_w = w_phrase)) then
 some (1, 3)
 else
 bif (decide (p_w = w_read)) then
 bif (decide (p_w = w_read)) then
 some (1, 20)
 else
 some ((-1), (-1))
 else
 bif (decide (p_w = w_hide)) then
 some (1, 20)
 else
 some ((-1), (-1))
 else
 bif (decide (p_w = w_first)) then
 bif (decide (p_w = w_first)) then
 some (3, 3)
 else
 bif (decide (p_w = w_phrase)) then
 some (1, 3)
 else
 bif (decide (p_w = w_read)) then
 bif (decide (p_w = w_read)) then
 some (1, 20)
 else
 some ((-1), (-1))
 else
 bif (decide (p_w = w_hide)) then
 some (1, 20)
 else
 some ((-1), (-1))
 else
 bif (decide (p_w = w_way)) then
 bif (decide (p_w = w_way)) then
 some (3, 3)
 else
 bif (decide (p_w = w_phrase)) then
 some (1, 3)
 else
 bif (decide (p_w = w_read)) then
 bif (decide (p_w = w_read)) then
 some (1, 20)
 else
 some ((-1), (-1))
 else
 bif (decide (p_w = w_hide)) then
 some (1, 20)
 else
 some ((-1), (-1))
 else
 bif (decide (p_w = w_shift)) then
 some (3, 3)
 else
 bif (decide (p_w = w_phrase)) then
 some (1, 3)
 else
 bif (decide (p_w = w_read)) then
 bif (decide (p_w = w_read)) then
 some (1, 20)
 else
 some ((-1), (-1))
 else
 bif (decide (p_w = w_hide)) then
 some (1, 20)
 else
 some ((-1), (-1))
 else
 bif (decide (p_w = w_duty)) then
 some (1, 1)
 else
 bif (decide (p_w = w_accept)) then
 bif (decide (p_w = w_accept)) then
 some (2, 2)
 else
 bif (decide (p_w = w_tower)) then
 bif (decide (p_w = w_tower)) then
 some (3, 3)
 else
 bif (decide (p_w = w_phrase)) then
 some (1, 3)
 else
 bif (decide (p_w = w_read)) then
 bif (decide (p_w = w_read)) then
 some (1, 20)
 else
 some ((-1), (-1))
 else
 bif (decide (p_w = w_hide)) then
 some (1, 20)
 else
 some ((-1), (-1))
 else
 bif (decide (p_w = w_link)) then
 bif (decide (p_w = w_link)) then
 some (3, 3)
 else
 bif (decide (p_w = w_phrase)) then
 some (1, 3)
 else
 bif (decide (p_w = w_read)) then
 bif (decide (p_w = w_read)) then
 some (1, 20)
 else
 some ((-1), (-1))
 else
 bif (decide (p_w = w_hide)) then
 some (1, 20)
 else
 some ((-1), (-1))
 else
 bif (decide (p_w = w_fog)) then
 bif (decide (p_w = w_fog)) then
 some (3, 3)
 else
 bif (decide (p_w = w_phrase)) then
 some (1, 3)
 else
 bif (decide (p_w = w_read)) then
 bif (decide (p_w = w_read)) then
 some (1, 20)
 else
 some ((-1), (-1))
 else
 bif (decide (p_w = w_hide)) then
 some (1, 20)
 else
 some ((-1), (-1))
 else
 bif (decide (p_w = w_first)) then
 bif (decide (p_w = w_first)) then
 some (3, 3)
 else
 bif (decide (p_w = w_phrase)) then
 some (1, 3)
 else
 bif (decide (p_w = w_read)) then
 bif (decide (p_w = w_read)) then
 some (1, 20)
 else
 some ((-1), (-1))
 else
 bif (decide (p_w = w_hide)) then
 some (1, 20)
 else
 some ((-1), (-1))
 else
 bif (decide (p_w = w_way)) then
 bif (decide (p_w = w_way)) then
 some (3, 3)
 else
 bif (decide (p_w = w_phrase)) then
 some (1, 3)
 else
 bif (decide (p_w = w_read)) then
 bif (decide (p_w = w_read)) then
 some (1, 20)
 else
 some ((-1), (-1))
 else
 bif (decide (p_w = w_hide)) then
 some (1, 20)
 else
 some ((-1), (-1))
 else
 bif (decide (p_w = w_shift)) then
 some (3, 3)
 else
 bif (decide (p_w = w_phrase)) then
 some (1, 3)
 else
 bif (decide (p_w = w_read)) then
 bif (decide (p_w = w_read)) then
 some (1, 20)
 else
 some ((-1), (-1))
 else
 bif (decide (p_w = w_hide)) then
 some (1, 20)
 else
 some ((-1), (-1))
 else
 bif (decide (p_w = w_arrived)) then
 some (2, 2)
 else
 bif (decide (p_w = w_tower)) then
 bif (decide (p_w = w_tower)) then
 some (3, 3)
 else
 bif (decide (p_w = w_phrase)) then
 some (1, 3)
 else
 bif (decide (p_w = w_read)) then
 bif (decide (p_w = w_read)) then
 some (1, 20)
 else
 some ((-1), (-1))
 else
 bif (decide (p_w = w_hide)) then
 some (1, 20)
 else
 some ((-1), (-1))
 else
 bif (decide (p_w = w_link)) then
 bif (decide (p_w = w_link)) then
 some (3, 3)
 else
 bif (decide (p_w = w_phrase)) then
 some (1, 3)
 else
 bif (decide (p_w = w_read)) then
 bif (decide (p_w = w_read)) then
 some (1, 20)
 else
 some ((-1), (-1))
 else
 bif (decide (p_w = w_hide)) then
 some (1, 20)
 else
 some ((-1), (-1))
 else
 bif (decide (p_w = w_fog)) then
 bif (decide (p_w = w_fog)) then
 some (3, 3)
 else
 bif (decide (p_w = w_phrase)) then
 some (1, 3)
 else
 bif (decide (p_w = w_read)) then
 bif (decide (p_w = w_read)) then
 some (1, 20)
 else
 some ((-1), (-1))
 else
 bif (decide (p_w = w_hide)) then
 some (1, 20)
 else
 some ((-1), (-1))
 else
 bif (decide (p_w = w_first)) then
 bif (decide (p_w = w_first)) then
 some (3, 3)
 else
 bif (decide (p_w = w_phrase)) then
 some (1, 3)
 else
 bif (decide (p_w = w_read)) then
 bif (decide (p_w = w_read)) then
 some (1, 20)
 else
 some ((-1), (-1))
 else
 bif (decide (p_w = w_hide)) then
 some (1, 20)
 else
 some ((-1), (-1))
 else
 bif (decide (p_w = w_way)) then
 bif (decide (p_w = w_way)) then
 some (3, 3)
 else
 bif (decide (p_w = w_phrase)) then
 some (1, 3)
 else
 bif (decide (p_w = w_read)) then
 bif (decide (p_w = w_read)) then
 some (1, 20)
 else
 some ((-1), (-1))
 else
 bif (decide (p_w = w_hide)) then
 some (1, 20)
 else
 some ((-1), (-1))
 else
 bif (decide (p_w = w_shift)) then
 some (3, 3)
 else
 bif (decide (p_w = w_phrase)) then
 some (1, 3)
 else
 bif (decide (p_w = w_read)) then
 bif (decide (p_w = w_read)) then
 some (1, 20)
 else
 some ((-1), (-1))
 else
 bif (decide (p_w = w_hide)) then
 some (1, 20)
 else
 some ((-1), (-1))
def C117 : FnSpec := { ps := [.val .str], rs := [.val (.int .i64), .val (.int .i64)], fn := fun x => s_csCount x }
def E117 : Env := { T := [], G := [], ro := [], loops := [], joins := [(4, { keep := [4], live := [], outs := [(.normal, [.tv 5 .bool])] })] }
theorem S117 : Sound Tryz.prog 117 C117 := fun_sound (E := E117) ⟨good_T (by kernel_rfl), good_nil, mixedOk, ins_nil⟩ Tryz.func117 rfl fun _ => by kernel_rfl
def s_l1In (p_n : Int) (p_lo : Int) (p_hi : Int) : Option (Bool) :=
 (bif (decide (p_lo ≤ p_n)) then
 some (decide (p_n ≤ p_hi))
 else
 some false).bind fun c1 =>
 some c1
def C120 : FnSpec := { ps := [.val (.int .i64), .val (.int .i64), .val (.int .i64)], rs := [.val .bool], fn := fun x => s_l1In x.1 x.2.1 x.2.2 }
def E120 : Env := { T := [], G := [], ro := [], loops := [], joins := [] }
theorem S120 : Sound Tryz.prog 120 C120 := fun_sound (E := E120) ⟨good_T (by kernel_rfl), good_nil, mixedOk, ins_nil⟩ Tryz.func120 rfl fun _ => by kernel_rfl
def s_csLetters (p_s : Bytes) : Option (Bool) :=
 (loopE (fun (st2 : Int) => (
 bif (decide (st2 < (p_s.length : Int))) then
 (idx p_s st2).bind fun b3 =>
 (bif (decide ((b3.toNat : Int) < 97)) then
 some true
 else
 (idx p_s st2).bind fun b4 =>
 some (decide (122 < (b4.toNat : Int)))).bind fun c5 =>
 bif c5 then
 some (.inr (.inr false))
 else
 some (.inl (w64 (st2 + 1)))
 else
 some (.inr (.inl ())) : Option ((Int) ⊕ (Unit ⊕ Bool)))) 0).bind fun o6 =>
 match o6 with
 | .inl _ =>
  (s_l1In (p_s.length : Int) 1 40).bind fun r9 =>
  some r9
 | .inr y8 =>
  some y8
def C118 : FnSpec := { ps := [.val .str], rs := [.val .bool], fn := fun x => s_csLetters x }
def E118 : Env := { T := [(9, .str)], G := [(120, C120)], ro := [], loops := [(2, { keep := [0], live := [.tv 3 (.int .i64)], outs := [(.exit 0, []), (.ret, [.tv 2 .bool])] })], joins := [] }
theorem S118 : Sound Tryz.prog 118 C118 := fun_sound (E := E118) ⟨good_T (by kernel_rfl), (good_cons S120 ⟨_, Tryz.func120, by kernel_rfl, by kernel_rfl⟩ good_nil), mixedOk, ins_nil⟩ Tryz.func118 rfl fun _ => by kernel_rfl
def s_l1Read (p_s : Bytes) : Option (Int) :=
 (s_l1In (p_s.length : Int) 1 6).bind fun r1 =>
 (bif (!r1) then
 some true
 else
 (idx p_s 0).bind fun b2 =>
 (bif (decide ((b2.toNat : Int) = 48)) then
 some (decide (1 < (p_s.length : Int)))
 else
 some false).bind fun c3 =>
 some c3).bind fun c4 =>
 bif c4 then
 some (-1)
 else
 (loopE (fun (st6 : Int × Int) => (
 bif (decide (st6.2 < (p_s.length : Int))) then
 (idx p_s st6.2).bind fun b7 =>
 (bif (decide ((b7.toNat : Int) < 48)) then
 some true
 else
 (idx p_s st6.2).bind fun b8 =>
 some (decide (57 < (b8.toNat : Int)))).bind fun c9 =>
 bif c9 then
 some (.inr (.inr (-1)))
 else
 (idx p_s st6.2).bind fun b10 =>
 some (.inl ((w64 ((w64 (10 * st6.1)) + (w64 (IntKind.u8.wrap ((b10.toNat : Int) - 48))))), (w64 (st6.2 + 1))))
 else
 some (.inr (.inl st6.1)) : Option ((Int × Int) ⊕ (Int ⊕ Int)))) (0, 0)).bind fun o11 =>
 match o11 with
 | .inl x12 =>
  some x12
 | .inr y13 =>
  some y13
def C119 : FnSpec := { ps := [.val .str], rs := [.val (.int .i64)], fn := fun x => s_l1Read x }
def E119 : Env := { T := [(3, (.int .i64)), (5, (.int .u8)), (9, .str)], G := [(120, C120)], ro := [], loops := [(5, { keep := [0], live := [.tv 3 (.int .i64), .tv 4 (.int .i64)], outs := [(.exit 0, [.tv 3 (.int .i64)]), (.ret, [.tv 2 (.int .i64)])] })], joins := [] }
theorem S119 : Sound Tryz.prog 119 C119 := fun_sound (E := E119) ⟨good_T (by kernel_rfl), (good_cons S120 ⟨_, Tryz.func120, by kernel_rfl, by kernel_rfl⟩ good_nil), mixedOk, ins_nil⟩ Tryz.func119 rfl fun _ => by kernel_rfl
def s_csParse (p_w : List Bytes) : Option (Bytes × (List Int) × Bool) :=
 (idx p_w 0).bind fun e1 =>
 (s_csCount e1).bind fun r2 =>
 (sub p_w 1 (p_w.length : Int)).bind fun l3 =>
 (idx p_w 0).bind fun e4 =>
 (bif (decide (e4 = w_phrase)) then
 some true
 else
 (idx p_w 0).bind fun e5 =>
 some (decide (e5 = w_code))).bind fun c6 =>
 bif c6 then
 (bif (decide ((l3.length : Int) = 0)) then
 some true
 else
 (idx l3 0).bind fun e7 =>
 (s_csLetters e7).bind fun r8 =>
 some (!r8)).bind fun c9 =>
 bif c9 then
 some ([], [], false)
 else
 (idx l3 0).bind fun e10 =>
 (sub l3 1 (l3.length : Int)).bind fun l11 =>
 (loopE (fun (st13 : (List Int) × Int) => (
 bif (decide (st13.2 < (l11.length : Int))) then
 (idx l11 st13.2).bind fun e14 =>
 (s_l1Read e14).bind fun r15 =>
 (s_l1In r15 0 99999).bind fun r16 =>
 bif (!r16) then
 some (.inr (.inr ([], [], false)))
 else
 bif decide (List.length st13.1 + List.length [r15] ≤ lim) then
 some (.inl ((st13.1 ++ [r15]), (w64 (st13.2 + 1))))
 else
 none
 else
 some (.inr (.inl st13.1)) : Option (((List Int) × Int) ⊕ ((List Int) ⊕ (Bytes × (List Int) × Bool))))) ([], 0)).bind fun o17 =>
 match o17 with
 | .inl x18 =>
  (s_l1In (x18.length : Int) r2.1 r2.2).bind fun r20 =>
  some (e10, x18, r20)
 | .inr y19 =>
  some (y19.1, y19.2.1, y19.2.2)
 else
 (loopE (fun (st22 : (List Int) × Int) => (
 bif (decide (st22.2 < (l3.length : Int))) then
 (idx l3 st22.2).bind fun e23 =>
 (s_l1Read e23).bind fun r24 =>
 (s_l1In r24 0 99999).bind fun r25 =>
 bif (!r25) then
 some (.inr (.inr ([], [], false)))
 else
 bif decide (List.length st22.1 + List.length [r24] ≤ lim) then
 some (.inl ((st22.1 ++ [r24]), (w64 (st22.2 + 1))))
 else
 none
 else
 some (.inr (.inl st22.1)) : Option (((List Int) × Int) ⊕ ((List Int) ⊕ (Bytes × (List Int) × Bool))))) ([], 0)).bind fun o26 =>
 match o26 with
 | .inl x27 =>
  (s_l1In (x27.length : Int) r2.1 r2.2).bind fun r29 =>
  some ([], x27, r29)
 | .inr y28 =>
  some (y28.1, y28.2.1, y28.2.2)
def C92 : FnSpec := { ps := [.val (.slice .str)], rs := [.val .str, .own (.slice (.int .i64)), .val .bool], fn := fun x => s_csParse x }
def E92 : Env := { T := [(9, .str), (26, (.slice (.int .i64))), (69, (.slice .str))], G := [(117, C117), (118, C118), (119, C119), (120, C120)], ro := [], loops := [(11, { keep := [5, 6, 7, 47, 48], live := [.own 9 [] 200009 (.int .i64) true, .tv 49 (.int .i64)], outs := [(.exit 0, [.own 9 [] 200009 (.int .i64) true]), (.ret, [.tv 2 .str, .own 3 [] 200003 (.int .i64) true, .tv 4 .bool])] })], joins := [] }
theorem S92 : Sound Tryz.prog 92 C92 := fun_sound (E := E92) ⟨good_T (by kernel_rfl), (good_cons S117 ⟨_, Tryz.func117, by kernel_rfl, by kernel_rfl⟩ (good_cons S118 ⟨_, Tryz.func118, by kernel_rfl, by kernel_rfl⟩ (good_cons S119 ⟨_, Tryz.func119, by kernel_rfl, by kernel_rfl⟩ (good_cons S120 ⟨_, Tryz.func120, by kernel_rfl, by kernel_rfl⟩ good_nil)))), mixedOk, ins_nil⟩ Tryz.func92 rfl fun _ => by kernel_rfl
def s_l1Num_step (s_l1Num_again : Int → Option (Bytes)) (p_n : Int) : Option (Bytes) :=
 bif (decide (p_n < 10)) then
 some (toStr [(IntKind.u8.wrap (w64 (48 + p_n)))])
 else
 (s_l1Num_again (w64 (Int.tdiv p_n 10))).bind fun r1 =>
 bif decide (List.length r1 + List.length (toStr [(IntKind.u8.wrap (w64 (48 + (Int.tmod p_n 10))))]) ≤ lim) then
 some (r1 ++ (toStr [(IntKind.u8.wrap (w64 (48 + (Int.tmod p_n 10))))]))
 else
 none
def s_l1Num_it : Nat → Int → Option (Bytes)
  | 0, _ => none
  | k + 1, p_n => s_l1Num_step (s_l1Num_it k) p_n
def s_l1Num (p_n : Int) : Option (Bytes) := limE fun k => s_l1Num_it k p_n
def C82 : FnSpec := { ps := [.val (.int .i64)], rs := [.val .str], fn := fun x => s_l1Num x }
def CR82 (again : Int → Option (Bytes)) : FnSpec := { ps := [.val (.int .i64)], rs := [.val .str], fn := fun x => again x }
def E82 (again : Int → Option (Bytes)) : Env := { T := [(3, (.int .i64)), (5, (.int .u8)), (9, .str), (51, (.slice (.int .u8)))], G := [(82, CR82 again)], ro := [], loops := [], joins := [] }
theorem E82_eq : ∀ (again : Int → Option (Bytes)) x, afun (E82 again) Tryz.f82 C82.ps C82.rs x = s_l1Num_step again x := fun again x => by kernel_rfl
theorem S82_it : ∀ k, Sound Tryz.prog 82 (CR82 (s_l1Num_it k))
  | 0 => fun _ _ _ _ _ _ _ _ _ _ h => nomatch h
  | k + 1 => fun_sound (E := E82 (s_l1Num_it k)) ⟨good_T (by kernel_rfl), (good_cons (S82_it k) ⟨_, Tryz.func82, by kernel_rfl, by kernel_rfl⟩ good_nil), mixedOk, ins_nil⟩ Tryz.func82 rfl (E82_eq _)
theorem S82 : Sound Tryz.prog 82 C82 := sound_lim (P := Tryz.prog) (f := 82) (ps := C82.ps) (rs := C82.rs) (g := fun k x => s_l1Num_it k x) S82_it
def s_csWords (p_l : List Int) : Option (Bytes) :=
 (loopE (fun (st2 : Bytes × Int) => (
 bif (decide (st2.2 < (p_l.length : Int))) then
 (idx p_l st2.2).bind fun e3 =>
 bif (decide (0 < st2.2)) then
 bif decide (List.length st2.1 + List.length ([32] : Bytes) ≤ lim) then
 (s_l1Num e3).bind fun r4 =>
 bif decide (List.length (st2.1 ++ ([32] : Bytes)) + List.length r4 ≤ lim) then
 some (.inl (((st2.1 ++ ([32] : Bytes)) ++ r4), (w64 (st2.2 + 1))))
 else
 none
 else
 none
 else
 (s_l1Num e3).bind fun r5 =>
 bif decide (List.length st2.1 + List.length r5 ≤ lim) then
 some (.inl ((st2.1 ++ r5), (w64 (st2.2 + 1))))
 else
 none
 else
 some (.inr st2.1) : Option ((Bytes × Int) ⊕ (Bytes)))) ([], 0)).bind fun o6 =>
 bif (decide (o6 = [])) then
 some w_none
 else
 some o6
def C93 : FnSpec := { ps := [.val (.slice (.int .i64))], rs := [.val .str], fn := fun x => s_csWords x }
def E93 : Env := { T := [(3, (.int .i64)), (26, (.slice (.int .i64)))], G := [(82, C82)], ro := [], loops := [(3, { keep := [6, 7], live := [.tv 3 .str, .tv 8 (.int .i64)], outs := [(.exit 0, [.tv 3 .str])] })], joins := [] }
theorem S93 : Sound Tryz.prog 93 C93 := fun_sound (E := E93) ⟨good_T (by kernel_rfl), (good_cons S82 ⟨_, Tryz.func82, by kernel_rfl, by kernel_rfl⟩ good_nil), mixedOk, ins_nil⟩ Tryz.func93 rfl fun _ => by kernel_rfl
def s_csTold (p_s : Bytes) (p_ok : Bool) : Option (Bytes) :=
 bif (!p_ok) then
 some ([110, 111] : Bytes)
 else
 some p_s
def C101 : FnSpec := { ps := [.val .str, .val .bool], rs := [.val .str], fn := fun x => s_csTold x.1 x.2 }
def E101 : Env := { T := [], G := [], ro := [], loops := [], joins := [] }
theorem S101 : Sound Tryz.prog 101 C101 := fun_sound (E := E101) ⟨good_T (by kernel_rfl), good_nil, mixedOk, ins_nil⟩ Tryz.func101 rfl fun _ => by kernel_rfl
def s_csList (p_l : List Int) (p_ok : Bool) : Option (Bytes) :=
 (s_csWords p_l).bind fun r1 =>
 (s_csTold r1 p_ok).bind fun r2 =>
 some r2
def C94 : FnSpec := { ps := [.val (.slice (.int .i64)), .val .bool], rs := [.val .str], fn := fun x => s_csList x.1 x.2 }
def E94 : Env := { T := [], G := [(93, C93), (101, C101)], ro := [], loops := [], joins := [] }
theorem S94 : Sound Tryz.prog 94 C94 := fun_sound (E := E94) ⟨good_T (by kernel_rfl), (good_cons S93 ⟨_, Tryz.func93, by kernel_rfl, by kernel_rfl⟩ (good_cons S101 ⟨_, Tryz.func101, by kernel_rfl, by kernel_rfl⟩ good_nil)), mixedOk, ins_nil⟩ Tryz.func94 rfl fun _ => by kernel_rfl
def s_bkLetters (p_s : Bytes) : Option (Bool) :=
 (loopE (fun (st2 : Int) => (
 bif (decide (st2 < (p_s.length : Int))) then
 (idx p_s st2).bind fun b3 =>
 (bif (decide ((b3.toNat : Int) < 97)) then
 some true
 else
 (idx p_s st2).bind fun b4 =>
 some (decide (122 < (b4.toNat : Int)))).bind fun c5 =>
 bif c5 then
 some (.inr (.inr false))
 else
 some (.inl (w64 (st2 + 1)))
 else
 some (.inr (.inl ())) : Option ((Int) ⊕ (Unit ⊕ Bool)))) 0).bind fun o6 =>
 match o6 with
 | .inl _ =>
  some (decide ((p_s.length : Int) ≤ 12))
 | .inr y8 =>
  some y8
def C286 : FnSpec := { ps := [.val .str], rs := [.val .bool], fn := fun x => s_bkLetters x }
def E286 : Env := { T := [(9, .str)], G := [], ro := [], loops := [(2, { keep := [0], live := [.tv 3 (.int .i64)], outs := [(.exit 0, []), (.ret, [.tv 2 .bool])] })], joins := [] }
theorem S286 : Sound Tryz.prog 286 C286 := fun_sound (E := E286) ⟨good_T (by kernel_rfl), good_nil, mixedOk, ins_nil⟩ Tryz.func286 rfl fun _ => by kernel_rfl
def s_bkPhraseText (p_s : Bytes) : Option (Bool) :=
 (s_bkLetters p_s).bind fun r1 =>
 (bif r1 then
 some (!decide (p_s = []))
 else
 some false).bind fun c2 =>
 some c2
def C227 : FnSpec := { ps := [.val .str], rs := [.val .bool], fn := fun x => s_bkPhraseText x }
def E227 : Env := { T := [], G := [(286, C286)], ro := [], loops := [], joins := [] }
theorem S227 : Sound Tryz.prog 227 C227 := fun_sound (E := E227) ⟨good_T (by kernel_rfl), (good_cons S286 ⟨_, Tryz.func286, by kernel_rfl, by kernel_rfl⟩ good_nil), mixedOk, ins_nil⟩ Tryz.func227 rfl fun _ => by kernel_rfl
def s_l1All (p_l : List Int) (p_lo : Int) (p_hi : Int) : Option (Bool) :=
 (loopE (fun (st2 : Int) => (
 bif (decide (st2 < (p_l.length : Int))) then
 (idx p_l st2).bind fun e3 =>
 (s_l1In e3 p_lo p_hi).bind fun r4 =>
 bif (!r4) then
 some (.inr (.inr false))
 else
 some (.inl (w64 (st2 + 1)))
 else
 some (.inr (.inl ())) : Option ((Int) ⊕ (Unit ⊕ Bool)))) 0).bind fun o5 =>
 match o5 with
 | .inl _ =>
  some true
 | .inr y7 =>
  some y7
def C174 : FnSpec := { ps := [.val (.slice (.int .i64)), .val (.int .i64), .val (.int .i64)], rs := [.val .bool], fn := fun x => s_l1All x.1 x.2.1 x.2.2 }
def E174 : Env := { T := [(3, (.int .i64)), (26, (.slice (.int .i64)))], G := [(120, C120)], ro := [], loops := [(2, { keep := [1, 2, 9, 10], live := [.tv 11 (.int .i64)], outs := [(.exit 0, []), (.ret, [.tv 6 .bool])] })], joins := [] }
theorem S174 : Sound Tryz.prog 174 C174 := fun_sound (E := E174) ⟨good_T (by kernel_rfl), (good_cons S120 ⟨_, Tryz.func120, by kernel_rfl, by kernel_rfl⟩ good_nil), mixedOk, ins_nil⟩ Tryz.func174 rfl fun _ => by kernel_rfl
def s_bkSignals (p_l : List Int) : Option (Bool) :=
 (s_l1In (p_l.length : Int) 1 3).bind fun r1 =>
 (bif r1 then
 (s_l1All p_l 1 60).bind fun r2 =>
 some r2
 else
 some false).bind fun c3 =>
 some c3
def C228 : FnSpec := { ps := [.val (.slice (.int .i64))], rs := [.val .bool], fn := fun x => s_bkSignals x }
def E228 : Env := { T := [(26, (.slice (.int .i64)))], G := [(120, C120), (174, C174)], ro := [], loops := [], joins := [] }
theorem S228 : Sound Tryz.prog 228 C228 := fun_sound (E := E228) ⟨good_T (by kernel_rfl), (good_cons S120 ⟨_, Tryz.func120, by kernel_rfl, by kernel_rfl⟩ (good_cons S174 ⟨_, Tryz.func174, by kernel_rfl, by kernel_rfl⟩ good_nil)), mixedOk, ins_nil⟩ Tryz.func228 rfl fun _ => by kernel_rfl
def s_l1Same (p_a : List Int) (p_b : List Int) : Option (Bool) :=
 bif (!decide ((p_a.length : Int) = (p_b.length : Int))) then
 some false
 else
 (loopE (fun (st2 : Int) => (
 bif (decide (st2 < (p_a.length : Int))) then
 (idx p_a st2).bind fun e3 =>
 (idx p_b st2).bind fun e4 =>
 bif (!decide (e3 = e4)) then
 some (.inr (.inr false))
 else
 some (.inl (w64 (st2 + 1)))
 else
 some (.inr (.inl ())) : Option ((Int) ⊕ (Unit ⊕ Bool)))) 0).bind fun o5 =>
 match o5 with
 | .inl _ =>
  some true
 | .inr y7 =>
  some y7
def C234 : FnSpec := { ps := [.val (.slice (.int .i64)), .val (.slice (.int .i64))], rs := [.val .bool], fn := fun x => s_l1Same x.1 x.2 }
def E234 : Env := { T := [(3, (.int .i64)), (26, (.slice (.int .i64)))], G := [], ro := [], loops := [(4, { keep := [0, 1, 12], live := [.tv 13 (.int .i64)], outs := [(.exit 0, []), (.ret, [.tv 4 .bool])] })], joins := [] }
theorem S234 : Sound Tryz.prog 234 C234 := fun_sound (E := E234) ⟨good_T (by kernel_rfl), good_nil, mixedOk, ins_nil⟩ Tryz.func234 rfl fun _ => by kernel_rfl
def s_bkOf (p_b : GBook) (p_l : List Int) : Option (Int) :=
 (loopE (fun (st2 : Int) => (
 bif (decide (st2 < (p_b.1.length : Int))) then
 (idx p_b.1 st2).bind fun e3 =>
 (s_l1Same e3.2.1 p_l).bind fun r4 =>
 bif r4 then
 some (.inr (.inr st2))
 else
 some (.inl (w64 (st2 + 1)))
 else
 some (.inr (.inl ())) : Option ((Int) ⊕ (Unit ⊕ Int)))) 0).bind fun o5 =>
 match o5 with
 | .inl _ =>
  some (-1)
 | .inr y7 =>
  some y7
def C229 : FnSpec := { ps := [.val TGBook, .val (.slice (.int .i64))], rs := [.val (.int .i64)], fn := fun x => s_bkOf x.1 x.2 }
def E229 : Env := { T := [(26, (.slice (.int .i64))), (36, (.slice TGPhrase)), (38, TGBook), (108, TGPhrase)], G := [(234, C234)], ro := [2], loops := [(2, { keep := [1, 8, 9], live := [.tv 10 (.int .i64)], outs := [(.exit 0, []), (.ret, [.tv 4 (.int .i64)])] })], joins := [] }
theorem S229 : Sound Tryz.prog 229 C229 := fun_sound (E := E229) ⟨good_T (by kernel_rfl), (good_cons S234 ⟨_, Tryz.func234, by kernel_rfl, by kernel_rfl⟩ good_nil), mixedOk, ins_nil⟩ Tryz.func229 rfl fun _ => by kernel_rfl
def s_bkGood (p_b : GBook) : Option (Bool) :=
 (loopE (fun (st2 : Int) => (
 bif (decide (st2 < (p_b.1.length : Int))) then
 (idx p_b.1 st2).bind fun e3 =>
 (s_bkPhraseText e3.1).bind fun r4 =>
 (bif (!r4) then
 some true
 else
 (s_bkSignals e3.2.1).bind fun r5 =>
 some (!r5)).bind fun c6 =>
 (bif c6 then
 some true
 else
 (bif (decide (0 < st2)) then
 (idx p_b.1 (w64 (st2 - 1))).bind fun e7 =>
 some (!Op.bytesLess e7.1 e3.1)
 else
 some false).bind fun c8 =>
 some c8).bind fun c9 =>
 (bif c9 then
 some true
 else
 (s_bkOf p_b e3.2.1).bind fun r10 =>
 some (!decide (r10 = st2))).bind fun c11 =>
 bif c11 then
 some (.inr (.inr false))
 else
 some (.inl (w64 (st2 + 1)))
 else
 some (.inr (.inl ())) : Option ((Int) ⊕ (Unit ⊕ Bool)))) 0).bind fun o12 =>
 match o12 with
 | .inl _ =>
  (s_l1In (p_b.1.length : Int) 1 40).bind fun r15 =>
  some r15
 | .inr y14 =>
  some y14
def C163 : FnSpec := { ps := [.val TGBook], rs := [.val .bool], fn := fun x => s_bkGood x }
def E163 : Env := { T := [(9, .str), (26, (.slice (.int .i64))), (36, (.slice TGPhrase)), (38, TGBook), (108, TGPhrase)], G := [(120, C120), (227, C227), (228, C228), (229, C229)], ro := [1], loops := [(2, { keep := [1, 6, 7], live := [.tv 8 (.int .i64)], outs := [(.exit 0, []), (.ret, [.tv 2 .bool])] })], joins := [] }
theorem S163 : Sound Tryz.prog 163 C163 := fun_sound (E := E163) ⟨good_T (by kernel_rfl), (good_cons S120 ⟨_, Tryz.func120, by kernel_rfl, by kernel_rfl⟩ (good_cons S227 ⟨_, Tryz.func227, by kernel_rfl, by kernel_rfl⟩ (good_cons S228 ⟨_, Tryz.func228, by kernel_rfl, by kernel_rfl⟩ (good_cons S229 ⟨_, Tryz.func229, by kernel_rfl, by kernel_rfl⟩ good_nil)))), mixedOk, ins_nil⟩ Tryz.func163 rfl fun _ => by kernel_rfl
def s_spLetters (p_s : Bytes) : Option (Bool) :=
 (loopE (fun (st2 : Int) => (
 bif (decide (st2 < (p_s.length : Int))) then
 (idx p_s st2).bind fun b3 =>
 (bif (decide ((b3.toNat : Int) < 97)) then
 some true
 else
 (idx p_s st2).bind fun b4 =>
 some (decide (122 < (b4.toNat : Int)))).bind fun c5 =>
 bif c5 then
 some (.inr (.inr false))
 else
 some (.inl (w64 (st2 + 1)))
 else
 some (.inr (.inl ())) : Option ((Int) ⊕ (Unit ⊕ Bool)))) 0).bind fun o6 =>
 match o6 with
 | .inl _ =>
  some (decide ((p_s.length : Int) ≤ 40))
 | .inr y8 =>
  some y8
def C164 : FnSpec := { ps := [.val .str], rs := [.val .bool], fn := fun x => s_spLetters x }
def E164 : Env := { T := [(9, .str)], G := [], ro := [], loops := [(2, { keep := [0], live := [.tv 3 (.int .i64)], outs := [(.exit 0, []), (.ret, [.tv 2 .bool])] })], joins := [] }
theorem S164 : Sound Tryz.prog 164 C164 := fun_sound (E := E164) ⟨good_T (by kernel_rfl), good_nil, mixedOk, ins_nil⟩ Tryz.func164 rfl fun _ => by kernel_rfl
def s_spAsked (p_b : GBook) (p_s : Bytes) : Option (Bool) :=
 (s_bkGood p_b).bind fun r1 =>
 (bif r1 then
 (s_spLetters p_s).bind fun r2 =>
 some r2
 else
 some false).bind fun c3 =>
 some c3
def C121 : FnSpec := { ps := [.val TGBook, .val .str], rs := [.val .bool], fn := fun x => s_spAsked x.1 x.2 }
def E121 : Env := { T := [(38, TGBook)], G := [(163, C163), (164, C164)], ro := [2], loops := [], joins := [] }
theorem S121 : Sound Tryz.prog 121 C121 := fun_sound (E := E121) ⟨good_T (by kernel_rfl), (good_cons S163 ⟨_, Tryz.func163, by kernel_rfl, by kernel_rfl⟩ (good_cons S164 ⟨_, Tryz.func164, by kernel_rfl, by kernel_rfl⟩ good_nil)), mixedOk, ins_nil⟩ Tryz.func121 rfl fun _ => by kernel_rfl
def s_spBegins (p_s : Bytes) (p_text : Bytes) : Option (Bool) :=
 (bif (decide ((p_text.length : Int) ≤ (p_s.length : Int))) then
 (sub p_s 0 (p_text.length : Int)).bind fun l1 =>
 some (decide (l1 = p_text))
 else
 some false).bind fun c2 =>
 some c2
def C231 : FnSpec := { ps := [.val .str, .val .str], rs := [.val .bool], fn := fun x => s_spBegins x.1 x.2 }
def E231 : Env := { T := [(9, .str)], G := [], ro := [], loops := [], joins := [] }
theorem S231 : Sound Tryz.prog 231 C231 := fun_sound (E := E231) ⟨good_T (by kernel_rfl), good_nil, mixedOk, ins_nil⟩ Tryz.func231 rfl fun _ => by kernel_rfl
def s_spTable (p_b : GBook) (p_s : Bytes) : Option ((List Int)) :=
 bif decide (0 ≤ (w64 ((p_s.length : Int) + 1))) && decide ((w64 ((p_s.length : Int) + 1)) ≤ (w64 ((p_s.length : Int) + 1))) && decide ((w64 ((p_s.length : Int) + 1)) ≤ lim) then
 (loopE (fun (st2 : (List Int) × Int) => (
 bif (decide (0 ≤ st2.2)) then
 bif decide (0 ≤ st2.2) && decide (st2.2 < (st2.1.length : Int)) then
 (loopE (fun (st4 : (List Int) × Int) => (
 bif (decide (st4.2 < (p_b.1.length : Int))) then
 (idx p_b.1 st4.2).bind fun e5 =>
 (sub p_s st2.2 (p_s.length : Int)).bind fun l6 =>
 (s_spBegins l6 e5.1).bind fun r7 =>
 (bif (!r7) then
 some true
 else
 bif decide (0 ≤ (w64 (st2.2 + (e5.1.length : Int)))) && decide ((w64 (st2.2 + (e5.1.length : Int))) < (st4.1.length : Int)) then
 (st4.1[(Int.toNat (w64 (st2.2 + (e5.1.length : Int))))]?).bind fun e8 =>
 some (decide (e8 < 0))
 else
 none).bind fun c9 =>
 bif c9 then
 some (.inl (st4.1, (w64 (st4.2 + 1))))
 else
 bif decide (0 ≤ (w64 (st2.2 + (e5.1.length : Int)))) && decide ((w64 (st2.2 + (e5.1.length : Int))) < (st4.1.length : Int)) then
 (st4.1[(Int.toNat (w64 (st2.2 + (e5.1.length : Int))))]?).bind fun e10 =>
 bif decide (0 ≤ st2.2) && decide (st2.2 < (st4.1.length : Int)) then
 (st4.1[(Int.toNat st2.2)]?).bind fun e11 =>
 (bif (decide (e11 < 0)) then
 some true
 else
 bif decide (0 ≤ st2.2) && decide (st2.2 < (st4.1.length : Int)) then
 (st4.1[(Int.toNat st2.2)]?).bind fun e12 =>
 some (decide ((w64 ((e5.2.1.length : Int) + e10)) < e12))
 else
 none).bind fun c13 =>
 bif c13 then
 bif decide (0 ≤ st2.2) && decide (st2.2 < (st4.1.length : Int)) then
 some (.inl ((st4.1.set (Int.toNat st2.2) (w64 ((e5.2.1.length : Int) + e10))), (w64 (st4.2 + 1))))
 else
 none
 else
 some (.inl (st4.1, (w64 (st4.2 + 1))))
 else
 none
 else
 none
 else
 some (.inr st4.1) : Option (((List Int) × Int) ⊕ ((List Int))))) ((st2.1.set (Int.toNat st2.2) (-1)), 0)).bind fun o14 =>
 some (.inl (o14, (w64 (st2.2 - 1))))
 else
 none
 else
 some (.inr st2.1) : Option (((List Int) × Int) ⊕ ((List Int))))) ((List.replicate (Int.toNat (w64 ((p_s.length : Int) + 1))) (0 : Int)), (w64 ((p_s.length : Int) - 1)))).bind fun o15 =>
 some o15
 else
 none
def C230 : FnSpec := { ps := [.val TGBook, .val .str], rs := [.own (.slice (.int .i64))], fn := fun x => s_spTable x.1 x.2 }
def E230 : Env := { T := [(3, (.int .i64)), (9, .str), (26, (.slice (.int .i64))), (36, (.slice TGPhrase)), (38, TGBook), (108, TGPhrase)], G := [(231, C231)], ro := [2], loops := [(3, { keep := [1, 2], live := [.own 5 [] 208 (.int .i64) true, .tv 6 (.int .i64)], outs := [(.exit 0, [.own 5 [] 208 (.int .i64) true])] }), (7, { keep := [1, 2, 6, 25, 26], live := [.own 5 [] 208 (.int .i64) true, .tv 27 (.int .i64)], outs := [(.exit 2, [.own 5 [] 208 (.int .i64) true])] })], joins := [] }
theorem S230 : Sound Tryz.prog 230 C230 := fun_sound (E := E230) ⟨good_T (by kernel_rfl), (good_cons S231 ⟨_, Tryz.func231, by kernel_rfl, by kernel_rfl⟩ good_nil), mixedOk, ins_nil⟩ Tryz.func230 rfl fun _ => by kernel_rfl
def s_spSpell (p_b : GBook) (p_s : Bytes) : Option ((List Int) × Bool) :=
 (s_spTable p_b p_s).bind fun r1 =>
 bif decide (0 ≤ 0) && decide (0 < (r1.length : Int)) then
 (r1[(Int.toNat 0)]?).bind fun e2 =>
 bif (decide (e2 < 0)) then
 some ([], false)
 else
 (loopE (fun (st4 : (List Int) × (List Int) × Int) => (
 bif (decide (st4.2.2 < (p_s.length : Int))) then
 (loopE (fun (st6 : (List Int) × (List Int) × Int × Int) => (
 bif (decide (st6.2.2.2 < (p_b.1.length : Int))) then
 (idx p_b.1 st6.2.2.2).bind fun e7 =>
 (bif (decide (st6.2.2.1 < 0)) then
 (sub p_s st4.2.2 (p_s.length : Int)).bind fun l8 =>
 (s_spBegins l8 e7.1).bind fun r9 =>
 some r9
 else
 some false).bind fun c10 =>
 (bif c10 then
 bif decide (0 ≤ (w64 (st4.2.2 + (e7.1.length : Int)))) && decide ((w64 (st4.2.2 + (e7.1.length : Int))) < (st6.1.length : Int)) then
 (st6.1[(Int.toNat (w64 (st4.2.2 + (e7.1.length : Int))))]?).bind fun e11 =>
 some (decide (0 ≤ e11))
 else
 none
 else
 some false).bind fun c12 =>
 (bif c12 then
 bif decide (0 ≤ (w64 (st4.2.2 + (e7.1.length : Int)))) && decide ((w64 (st4.2.2 + (e7.1.length : Int))) < (st6.1.length : Int)) then
 (st6.1[(Int.toNat (w64 (st4.2.2 + (e7.1.length : Int))))]?).bind fun e13 =>
 bif decide (0 ≤ st4.2.2) && decide (st4.2.2 < (st6.1.length : Int)) then
 (st6.1[(Int.toNat st4.2.2)]?).bind fun e14 =>
 some (decide ((w64 ((e7.2.1.length : Int) + e13)) = e14))
 else
 none
 else
 none
 else
 some false).bind fun c15 =>
 bif c15 then
 some (.inl (st6.1, st6.2.1, st6.2.2.2, (w64 (st6.2.2.2 + 1))))
 else
 some (.inl (st6.1, st6.2.1, st6.2.2.1, (w64 (st6.2.2.2 + 1))))
 else
 some (.inr (st6.1, st6.2.1, st6.2.2.1)) : Option (((List Int) × (List Int) × Int × Int) ⊕ (((List Int) × (List Int) × Int))))) (st4.1, st4.2.1, (-1), 0)).bind fun o16 =>
 bif decide (List.length o16.2.1 + List.length [o16.2.2] ≤ lim) then
 (idx p_b.1 o16.2.2).bind fun e17 =>
 some (.inl (o16.1, (o16.2.1 ++ [o16.2.2]), (w64 (st4.2.2 + (e17.1.length : Int)))))
 else
 none
 else
 some (.inr st4.2.1) : Option (((List Int) × (List Int) × Int) ⊕ ((List Int))))) (r1, [], 0)).bind fun o18 =>
 some (o18, true)
 else
 none
def C165 : FnSpec := { ps := [.val TGBook, .val .str], rs := [.own (.slice (.int .i64)), .val .bool], fn := fun x => s_spSpell x.1 x.2 }
def E165 : Env := { T := [(3, (.int .i64)), (9, .str), (26, (.slice (.int .i64))), (36, (.slice TGPhrase)), (38, TGBook), (108, TGPhrase)], G := [(230, C230), (231, C231)], ro := [2], loops := [(6, { keep := [1, 2], live := [.own 6 [] 224 (.int .i64) true, .own 7 [] 200007 (.int .i64) true, .tv 8 (.int .i64)], outs := [(.exit 0, [.own 7 [] 200007 (.int .i64) true])] }), (9, { keep := [1, 2, 8, 24, 25], live := [.own 6 [] 224 (.int .i64) true, .own 7 [] 200007 (.int .i64) true, .tv 9 (.int .i64), .tv 26 (.int .i64)], outs := [(.exit 2, [.own 6 [] 224 (.int .i64) true, .own 7 [] 200007 (.int .i64) true, .tv 9 (.int .i64)])] })], joins := [] }
theorem S165 : Sound Tryz.prog 165 C165 := fun_sound (E := E165) ⟨good_T (by kernel_rfl), (good_cons S230 ⟨_, Tryz.func230, by kernel_rfl, by kernel_rfl⟩ (good_cons S231 ⟨_, Tryz.func231, by kernel_rfl, by kernel_rfl⟩ good_nil)), mixedOk, ins_nil⟩ Tryz.func165 rfl fun _ => by kernel_rfl
def s_spEncode (p_b : GBook) (p_s : Bytes) : Option ((List Int) × Bool) :=
 (s_spSpell p_b p_s).bind fun r1 =>
 bif (!r1.2) then
 some ([], false)
 else
 (loopE (fun (st3 : (List Int) × (List Int) × Int) => (
 bif (decide (st3.2.2 < (r1.1.length : Int))) then
 bif decide (0 ≤ st3.2.2) && decide (st3.2.2 < (st3.2.1.length : Int)) then
 (st3.2.1[(Int.toNat st3.2.2)]?).bind fun e4 =>
 (idx p_b.1 e4).bind fun e5 =>
 bif decide (List.length st3.1 + List.length e5.2.1 ≤ lim) then
 some (.inl ((st3.1 ++ e5.2.1), st3.2.1, (w64 (st3.2.2 + 1))))
 else
 none
 else
 none
 else
 some (.inr st3.1) : Option (((List Int) × (List Int) × Int) ⊕ ((List Int))))) ([], r1.1, 0)).bind fun o6 =>
 some (o6, true)
def C122 : FnSpec := { ps := [.val TGBook, .val .str], rs := [.own (.slice (.int .i64)), .val .bool], fn := fun x => s_spEncode x.1 x.2 }
def E122 : Env := { T := [(3, (.int .i64)), (26, (.slice (.int .i64))), (36, (.slice TGPhrase)), (38, TGBook), (108, TGPhrase)], G := [(165, C165)], ro := [2], loops := [(6, { keep := [2, 20], live := [.own 8 [] 200008 (.int .i64) true, .own 19 [] 224 (.int .i64) true, .tv 21 (.int .i64)], outs := [(.exit 0, [.own 8 [] 200008 (.int .i64) true])] })], joins := [] }
theorem S122 : Sound Tryz.prog 122 C122 := fun_sound (E := E122) ⟨good_T (by kernel_rfl), (good_cons S165 ⟨_, Tryz.func165, by kernel_rfl, by kernel_rfl⟩ good_nil), mixedOk, ins_nil⟩ Tryz.func122 rfl fun _ => by kernel_rfl
def s_EncodeMessage (p_b : GBook) (p_s : Bytes) : Option ((List Int) × Bool) :=
 (s_spAsked p_b p_s).bind fun r1 =>
 bif (!r1) then
 some ([], false)
 else
 (s_spEncode p_b p_s).bind fun r2 =>
 some (r2.1, r2.2)
def C95 : FnSpec := { ps := [.val TGBook, .val .str], rs := [.own (.slice (.int .i64)), .val .bool], fn := fun x => s_EncodeMessage x.1 x.2 }
def E95 : Env := { T := [(38, TGBook)], G := [(121, C121), (122, C122)], ro := [2], loops := [], joins := [] }
theorem S95 : Sound Tryz.prog 95 C95 := fun_sound (E := E95) ⟨good_T (by kernel_rfl), (good_cons S121 ⟨_, Tryz.func121, by kernel_rfl, by kernel_rfl⟩ (good_cons S122 ⟨_, Tryz.func122, by kernel_rfl, by kernel_rfl⟩ good_nil)), mixedOk, ins_nil⟩ Tryz.func95 rfl fun _ => by kernel_rfl
def s_l1Own (p_l : List Int) : Option ((List Int)) :=
 bif decide (List.length p_l ≤ lim) then
 some p_l
 else
 none
def C50 : FnSpec := { ps := [.val (.slice (.int .i64))], rs := [.own (.slice (.int .i64))], fn := fun x => s_l1Own x }
def E50 : Env := { T := [(26, (.slice (.int .i64)))], G := [], ro := [], loops := [], joins := [] }
theorem S50 : Sound Tryz.prog 50 C50 := fun_sound (E := E50) ⟨good_T (by kernel_rfl), good_nil, mixedOk, ins_nil⟩ Tryz.func50 rfl fun _ => by kernel_rfl
def s_bkOwn (p_l : List GPhrase) : Option ((List GPhrase)) :=
 (loopE (fun (st2 : (List GPhrase) × Int) => (
 bif (decide (st2.2 < (p_l.length : Int))) then
 (idx p_l st2.2).bind fun e3 =>
 (s_l1Own e3.2.1).bind fun r4 =>
 bif decide (List.length st2.1 + List.length [(e3.1, r4, ())] ≤ lim) then
 some (.inl ((st2.1 ++ [(e3.1, r4, ())]), (w64 (st2.2 + 1))))
 else
 none
 else
 some (.inr st2.1) : Option (((List GPhrase) × Int) ⊕ ((List GPhrase))))) ([], 0)).bind fun o5 =>
 some o5
def C167 : FnSpec := { ps := [.val (.slice TGPhrase)], rs := [.own (.slice TGPhrase)], fn := fun x => s_bkOwn x }
def E167 : Env := { T := [(9, .str), (26, (.slice (.int .i64))), (36, (.slice TGPhrase)), (108, TGPhrase)], G := [(50, C50)], ro := [], loops := [(3, { keep := [6, 7], live := [.own 3 [] 200003 TGPhrase true, .tv 8 (.int .i64)], outs := [(.exit 0, [.own 3 [] 200003 TGPhrase true])] })], joins := [], mv := true, hoist := [(5, [0])] }
theorem S167 : Sound Tryz.prog 167 C167 := fun_sound (E := E167) ⟨good_T (by kernel_rfl), (good_cons S50 ⟨_, Tryz.func50, by kernel_rfl, by kernel_rfl⟩ good_nil), mixedOk, ins_nil⟩ Tryz.func167 rfl fun _ => by kernel_rfl
def s_bkIf (p_l : List GPhrase) : Option (GBook × Bool) :=
 (s_bkOwn p_l).bind fun r1 =>
 (s_bkGood (r1, ())).bind fun r2 =>
 bif (!r2) then
 some (([], ()), false)
 else
 some ((r1, ()), true)
def C166 : FnSpec := { ps := [.val (.slice TGPhrase)], rs := [.own TGBook, .val .bool], fn := fun x => s_bkIf x }
def E166 : Env := { T := [(38, TGBook)], G := [(163, C163), (167, C167)], ro := [], loops := [], joins := [] }
theorem S166 : Sound Tryz.prog 166 C166 := fun_sound (E := E166) ⟨good_T (by kernel_rfl), (good_cons S163 ⟨_, Tryz.func163, by kernel_rfl, by kernel_rfl⟩ (good_cons S167 ⟨_, Tryz.func167, by kernel_rfl, by kernel_rfl⟩ good_nil)), mixedOk, ins_nil⟩ Tryz.func166 rfl fun _ => by kernel_rfl
def s_AddPhrase (p_b : GBook) (p_x : GPhrase) : Option (GBook × Bool) :=
 (s_bkGood p_b).bind fun r1 =>
 bif (!r1) then
 some (([], ()), false)
 else
 (loopE (fun (st3 : (List GPhrase) × Int) => (
 (bif (decide (st3.2 < (p_b.1.length : Int))) then
 (idx p_b.1 st3.2).bind fun e4 =>
 some (Op.bytesLess e4.1 p_x.1)
 else
 some false).bind fun c5 =>
 bif c5 then
 some (.inl (st3.1, (w64 (st3.2 + 1))))
 else
 some (.inr (st3.1, st3.2)) : Option (((List GPhrase) × Int) ⊕ (((List GPhrase) × Int))))) ([], 0)).bind fun o6 =>
 (sub p_b.1 0 o6.2).bind fun l7 =>
 (sub p_b.1 o6.2 (p_b.1.length : Int)).bind fun l8 =>
 bothSame (
 (s_bkOwn l7).bind fun r9 =>
 bif decide (List.length r9 + List.length [p_x] ≤ lim) then
 bif decide (List.length (r9 ++ [p_x]) + List.length l8 ≤ lim) then
 (s_bkIf ((r9 ++ [p_x]) ++ l8)).bind fun r10 =>
 bothSame (
 some (r10.1, r10.2))
 (
 some (r10.1, r10.2))
 else
 none
 else
 none)
 (
 (s_bkOwn l7).bind fun r11 =>
 bif decide (List.length r11 + List.length [p_x] ≤ lim) then
 bif decide (List.length (r11 ++ [p_x]) + List.length l8 ≤ lim) then
 (s_bkIf ((r11 ++ [p_x]) ++ l8)).bind fun r12 =>
 bothSame (
 some (r12.1, r12.2))
 (
 some (r12.1, r12.2))
 else
 none
 else
 none)
def C123 : FnSpec := { ps := [.val TGBook, .val TGPhrase], rs := [.own TGBook, .val .bool], fn := fun x => s_AddPhrase x.1 x.2 }
def E123 : Env := { T := [(9, .str), (36, (.slice TGPhrase)), (38, TGBook), (108, TGPhrase)], G := [(163, C163), (166, C166), (167, C167)], ro := [2, 3], loops := [(4, { keep := [2, 3], live := [.bx 4 64 [.own 300064 TGPhrase true], .tv 6 (.int .i64)], outs := [(.exit 0, [.bx 4 64 [.own 300064 TGPhrase true], .tv 6 (.int .i64)])] })], joins := [], every := [6] }
theorem S123 : Sound Tryz.prog 123 C123 := fun_sound (E := E123) ⟨good_T (by kernel_rfl), (good_cons S163 ⟨_, Tryz.func163, by kernel_rfl, by kernel_rfl⟩ (good_cons S166 ⟨_, Tryz.func166, by kernel_rfl, by kernel_rfl⟩ (good_cons S167 ⟨_, Tryz.func167, by kernel_rfl, by kernel_rfl⟩ good_nil))), mixedOk, ins_nil⟩ Tryz.func123 rfl fun _ => by kernel_rfl
def s_csDone (p_ok : Bool) : Option (Bytes) :=
 bif (!p_ok) then
 some ([110, 111] : Bytes)
 else
 some ([111, 107] : Bytes)
def C124 : FnSpec := { ps := [.val .bool], rs := [.val .str], fn := fun x => s_csDone x }
def E124 : Env := { T := [], G := [], ro := [], loops := [], joins := [] }
theorem S124 : Sound Tryz.prog 124 C124 := fun_sound (E := E124) ⟨good_T (by kernel_rfl), good_nil, mixedOk, ins_nil⟩ Tryz.func124 rfl fun _ => by kernel_rfl
def s_csState_phrase (p_x : GcsState) (p_text : Bytes) (p_n : List Int) : Option (GcsState × Bytes) :=
 (s_AddPhrase p_x.2.2.1 (p_text, p_n, ())).bind fun r1 =>
 bif r1.2 then
 (s_csDone r1.2).bind fun r2 =>
 some ((p_x.1, p_x.2.1, r1.1, p_x.2.2.2), r2)
 else
 (s_csDone r1.2).bind fun r3 =>
 some (p_x, r3)
def C96 : FnSpec := { ps := [.obox TGcsState, .val .str, .val (.slice (.int .i64))], rs := [.val .str], fn := fun x => s_csState_phrase x.1 x.2.1 x.2.2 }
def E96 : Env := { T := [(38, TGBook), (83, TGcsState), (108, TGPhrase)], G := [(123, C123), (124, C124)], ro := [], loops := [], joins := [] }
theorem S96 : Sound Tryz.prog 96 C96 := fun_sound_obox (E := E96) ⟨good_T (by kernel_rfl), (good_cons S123 ⟨_, Tryz.func123, by kernel_rfl, by kernel_rfl⟩ (good_cons S124 ⟨_, Tryz.func124, by kernel_rfl, by kernel_rfl⟩ good_nil)), mixedOk, ins_nil⟩ Tryz.func96 rfl rfl fun _ => by kernel_rfl
def s_neOwn (p_n : GNet) : Option (GNet) :=
 bif decide (List.length p_n.1 ≤ lim) then
 bif decide (List.length p_n.2.1 ≤ lim) then
 some p_n
 else
 none
 else
 none
def C125 : FnSpec := { ps := [.val TGNet], rs := [.own TGNet], fn := fun x => s_neOwn x }
def E125 : Env := { T := [(43, (.slice TGTower)), (44, (.slice TGTower)), (46, TGNet)], G := [], ro := [1], loops := [], joins := [] }
theorem S125 : Sound Tryz.prog 125 C125 := fun_sound (E := E125) ⟨good_T (by kernel_rfl), good_nil, mixedOk, ins_nil⟩ Tryz.func125 rfl fun _ => by kernel_rfl
def s_neBefore (p_a : GTower) (p_b : GTower) : Option (Bool) :=
 (bif (decide (p_a.1 < p_b.1)) then
 some true
 else
 (bif (decide (p_a.1 = p_b.1)) then
 some (decide (p_a.2.1 < p_b.2.1))
 else
 some false).bind fun c1 =>
 some c1).bind fun c2 =>
 some c2
def C168 : FnSpec := { ps := [.val TGTower, .val TGTower], rs := [.val .bool], fn := fun x => s_neBefore x.1 x.2 }
def E168 : Env := { T := [(3, (.int .i64)), (106, TGTower)], G := [], ro := [2, 3], loops := [], joins := [] }
theorem S168 : Sound Tryz.prog 168 C168 := fun_sound (E := E168) ⟨good_T (by kernel_rfl), good_nil, mixedOk, ins_nil⟩ Tryz.func168 rfl fun _ => by kernel_rfl
def s_neGood (p_n : GNet) : Option (Bool) :=
 (loopE (fun (st2 : Int) => (
 bif (decide (st2 < (p_n.1.length : Int))) then
 (idx p_n.1 st2).bind fun e3 =>
 (s_l1In e3.1 0 999).bind fun r4 =>
 (bif (!r4) then
 some true
 else
 (s_l1In e3.2.1 0 999).bind fun r5 =>
 some (!r5)).bind fun c6 =>
 (bif c6 then
 some true
 else
 (s_l1In e3.2.2.1 0 500).bind fun r7 =>
 some (!r7)).bind fun c8 =>
 bif c8 then
 some (.inr (.inr false))
 else
 some (.inl (w64 (st2 + 1)))
 else
 some (.inr (.inl ())) : Option ((Int) ⊕ (Unit ⊕ Bool)))) 0).bind fun o9 =>
 match o9 with
 | .inl _ =>
  (loopE (fun (st13 : Int) => (
  bif (decide (st13 < (p_n.2.1.length : Int))) then
  (idx p_n.2.1 st13).bind fun e14 =>
  (s_l1In e14.1 0 (w64 (e14.2.1 - 1))).bind fun r15 =>
  (bif (!r15) then
  some true
  else
  (s_l1In e14.2.1 0 (w64 ((p_n.1.length : Int) - 1))).bind fun r16 =>
  some (!r16)).bind fun c17 =>
  (bif c17 then
  some true
  else
  (s_l1In e14.2.2.1 1 60).bind fun r18 =>
  some (!r18)).bind fun c19 =>
  (bif c19 then
  some true
  else
  (bif (decide (0 < st13)) then
  (idx p_n.2.1 (w64 (st13 - 1))).bind fun e20 =>
  (s_neBefore e20 e14).bind fun r21 =>
  some (!r21)
  else
  some false).bind fun c22 =>
  some c22).bind fun c23 =>
  bif c23 then
  some (.inr (.inr false))
  else
  some (.inl (w64 (st13 + 1)))
  else
  some (.inr (.inl ())) : Option ((Int) ⊕ (Unit ⊕ Bool)))) 0).bind fun o24 =>
  match o24 with
  | .inl _ =>
   (s_l1In (p_n.1.length : Int) 1 16).bind fun r27 =>
   (bif r27 then
   some (decide ((p_n.2.1.length : Int) ≤ 40))
   else
   some false).bind fun c28 =>
   some c28
  | .inr y26 =>
   some y26
 | .inr y11 =>
  some y11
def C126 : FnSpec := { ps := [.val TGNet], rs := [.val .bool], fn := fun x => s_neGood x }
def E126 : Env := { T := [(3, (.int .i64)), (43, (.slice TGTower)), (44, (.slice TGTower)), (46, TGNet), (104, TGTower), (106, TGTower)], G := [(120, C120), (168, C168)], ro := [1], loops := [(2, { keep := [1, 8, 9, 47, 48, 49, 50, 51, 52, 53, 54, 57, 58, 59, 60, 63, 64, 65, 66, 67, 68, 69, 70, 71, 72, 73, 74, 75, 83, 84, 85, 86], live := [.tv 10 (.int .i64)], outs := [(.exit 0, []), (.ret, [.tv 2 .bool])] }), (8, { keep := [1, 32, 33, 83, 84, 85, 86], live := [.tv 34 (.int .i64)], outs := [(.exit 2, []), (.ret, [.tv 2 .bool])] })], joins := [] }
theorem S126 : Sound Tryz.prog 126 C126 := fun_sound (E := E126) ⟨good_T (by kernel_rfl), (good_cons S120 ⟨_, Tryz.func120, by kernel_rfl, by kernel_rfl⟩ (good_cons S168 ⟨_, Tryz.func168, by kernel_rfl, by kernel_rfl⟩ good_nil)), mixedOk, ins_nil⟩ Tryz.func126 rfl fun _ => by kernel_rfl
def s_csState_tower (p_x : GcsState) (p_n : List Int) : Option (GcsState × Bytes) :=
 (s_neOwn p_x.1).bind fun r1 =>
 (idx p_n 0).bind fun e2 =>
 (idx p_n 1).bind fun e3 =>
 (idx p_n 2).bind fun e4 =>
 bif decide (List.length r1.1 + List.length [(e2, e3, e4, ())] ≤ lim) then
 (s_neGood ((r1.1 ++ [(e2, e3, e4, ())]), r1.2)).bind fun r5 =>
 bif (!r5) then
 some (p_x, ([110, 111] : Bytes))
 else
 some ((((r1.1 ++ [(e2, e3, e4, ())]), r1.2), p_x.2), ([111, 107] : Bytes))
 else
 none
def C97 : FnSpec := { ps := [.obox TGcsState, .val (.slice (.int .i64))], rs := [.val .str], fn := fun x => s_csState_tower x.1 x.2 }
def E97 : Env := { T := [(3, (.int .i64)), (26, (.slice (.int .i64))), (43, (.slice TGTower)), (46, TGNet), (83, TGcsState), (104, TGTower)], G := [(125, C125), (126, C126)], ro := [], loops := [], joins := [] }
theorem S97 : Sound Tryz.prog 97 C97 := fun_sound_obox (E := E97) ⟨good_T (by kernel_rfl), (good_cons S125 ⟨_, Tryz.func125, by kernel_rfl, by kernel_rfl⟩ (good_cons S126 ⟨_, Tryz.func126, by kernel_rfl, by kernel_rfl⟩ good_nil)), mixedOk, ins_nil⟩ Tryz.func97 rfl rfl fun _ => by kernel_rfl
def s_AddLink (p_n : GNet) (p_x : GTower) : Option (GNet × Bool) :=
 (s_neGood p_n).bind fun r1 =>
 bif (!r1) then
 some (([], [], ()), false)
 else
 (s_neOwn p_n).bind fun r2 =>
 (loopE (fun (st4 : (List GTower) × (List GTower) × (List GTower) × (List GTower) × Int) => (
 (bif (decide (st4.2.2.2.2 < (p_n.2.1.length : Int))) then
 (idx p_n.2.1 st4.2.2.2.2).bind fun e5 =>
 (s_neBefore e5 p_x).bind fun r6 =>
 some r6
 else
 some false).bind fun c7 =>
 bif c7 then
 some (.inl (st4.1, st4.2.1, st4.2.2.1, st4.2.2.2.1, (w64 (st4.2.2.2.2 + 1))))
 else
 some (.inr (st4.1, st4.2.1, st4.2.2.1, st4.2.2.2.1, st4.2.2.2.2)) : Option (((List GTower) × (List GTower) × (List GTower) × (List GTower) × Int) ⊕ (((List GTower) × (List GTower) × (List GTower) × (List GTower) × Int))))) ([], [], r2.1, r2.2.1, 0)).bind fun o8 =>
 (sub p_n.2.1 0 o8.2.2.2.2).bind fun l9 =>
 (sub p_n.2.1 o8.2.2.2.2 (p_n.2.1.length : Int)).bind fun l10 =>
 bothSame (
 bothSame (
 bif decide (List.length l9 ≤ lim) then
 bif decide (List.length l9 + List.length [p_x] ≤ lim) then
 bif decide (List.length (l9 ++ [p_x]) + List.length l10 ≤ lim) then
 (s_neGood (o8.2.2.1, ((l9 ++ [p_x]) ++ l10), ())).bind fun r11 =>
 bif (!r11) then
 some (([], [], ()), false)
 else
 some ((o8.2.2.1, ((l9 ++ [p_x]) ++ l10), ()), true)
 else
 none
 else
 none
 else
 none)
 (
 bif decide (List.length l9 ≤ lim) then
 bif decide (List.length l9 + List.length [p_x] ≤ lim) then
 bif decide (List.length (l9 ++ [p_x]) + List.length l10 ≤ lim) then
 (s_neGood (o8.2.2.1, ((l9 ++ [p_x]) ++ l10), ())).bind fun r12 =>
 bif (!r12) then
 some (([], [], ()), false)
 else
 some ((o8.2.2.1, ((l9 ++ [p_x]) ++ l10), ()), true)
 else
 none
 else
 none
 else
 none))
 (
 bif decide (List.length l9 ≤ lim) then
 bif decide (List.length l9 + List.length [p_x] ≤ lim) then
 bif decide (List.length (l9 ++ [p_x]) + List.length l10 ≤ lim) then
 (s_neGood (o8.2.2.1, ((l9 ++ [p_x]) ++ l10), ())).bind fun r13 =>
 bif (!r13) then
 some (([], [], ()), false)
 else
 some ((o8.2.2.1, ((l9 ++ [p_x]) ++ l10), ()), true)
 else
 none
 else
 none
 else
 none)
def C127 : FnSpec := { ps := [.val TGNet, .val TGTower], rs := [.own TGNet, .val .bool], fn := fun x => s_AddLink x.1 x.2 }
def E127 : Env := { T := [(44, (.slice TGTower)), (46, TGNet), (106, TGTower)], G := [(125, C125), (126, C126), (168, C168)], ro := [2, 3], loops := [(5, { keep := [2, 3], live := [.bx 4 64 [.own 300064 TGTower true, .own 300065 TGTower true], .bx 6 96 [.own 208 TGTower true, .own 209 TGTower true], .tv 7 (.int .i64)], outs := [(.exit 0, [.bx 4 64 [.own 300064 TGTower true, .own 300065 TGTower true], .bx 6 96 [.own 208 TGTower true, .own 209 TGTower true], .tv 7 (.int .i64)])] })], joins := [], every := [7] }
theorem S127 : Sound Tryz.prog 127 C127 := fun_sound (E := E127) ⟨good_T (by kernel_rfl), (good_cons S125 ⟨_, Tryz.func125, by kernel_rfl, by kernel_rfl⟩ (good_cons S126 ⟨_, Tryz.func126, by kernel_rfl, by kernel_rfl⟩ (good_cons S168 ⟨_, Tryz.func168, by kernel_rfl, by kernel_rfl⟩ good_nil))), mixedOk, ins_nil⟩ Tryz.func127 rfl fun _ => by kernel_rfl
def s_csState_link (p_x : GcsState) (p_n : List Int) : Option (GcsState × Bytes) :=
 (idx p_n 0).bind fun e1 =>
 (idx p_n 1).bind fun e2 =>
 (idx p_n 2).bind fun e3 =>
 (s_AddLink p_x.1 (e1, e2, e3, ())).bind fun r4 =>
 (bif (!r4.2) then
 some true
 else
 some (decide (0 < (p_x.2.1.length : Int)))).bind fun c5 =>
 bif c5 then
 some (p_x, ([110, 111] : Bytes))
 else
 some ((r4.1, p_x.2), ([111, 107] : Bytes))
def C98 : FnSpec := { ps := [.obox TGcsState, .val (.slice (.int .i64))], rs := [.val .str], fn := fun x => s_csState_link x.1 x.2 }
def E98 : Env := { T := [(3, (.int .i64)), (26, (.slice (.int .i64))), (46, TGNet), (65, (.slice TGTower)), (83, TGcsState), (106, TGTower)], G := [(127, C127)], ro := [], loops := [], joins := [], swaps := [(1, [(17, 19)])] }
theorem S98 : Sound Tryz.prog 98 C98 := fun_sound_obox (E := E98) ⟨good_T (by kernel_rfl), (good_cons S127 ⟨_, Tryz.func127, by kernel_rfl, by kernel_rfl⟩ good_nil), mixedOk, ins_nil⟩ Tryz.func98 rfl rfl fun _ => by kernel_rfl
def s_fgFog (p_n : GNet) (p_x : GTower) : Option (Bool) :=
 (s_l1In p_x.1 0 (w64 ((p_n.2.1.length : Int) - 1))).bind fun r1 =>
 (bif r1 then
 (s_l1In p_x.2.1 0 9999).bind fun r2 =>
 some r2
 else
 some false).bind fun c3 =>
 (bif c3 then
 (s_l1In p_x.2.2.1 (w64 (p_x.2.1 + 1)) 10000).bind fun r4 =>
 some r4
 else
 some false).bind fun c5 =>
 some c5
def C170 : FnSpec := { ps := [.val TGNet, .val TGTower], rs := [.val .bool], fn := fun x => s_fgFog x.1 x.2 }
def E170 : Env := { T := [(3, (.int .i64)), (44, (.slice TGTower)), (46, TGNet), (155, TGTower)], G := [(120, C120)], ro := [2, 3], loops := [], joins := [] }
theorem S170 : Sound Tryz.prog 170 C170 := fun_sound (E := E170) ⟨good_T (by kernel_rfl), (good_cons S120 ⟨_, Tryz.func120, by kernel_rfl, by kernel_rfl⟩ good_nil), mixedOk, ins_nil⟩ Tryz.func170 rfl fun _ => by kernel_rfl
def s_fgGood (p_n : GNet) (p_l : List GTower) : Option (Bool) :=
 (loopE (fun (st2 : Int) => (
 bif (decide (st2 < (p_l.length : Int))) then
 (idx p_l st2).bind fun e3 =>
 (s_fgFog p_n e3).bind fun r4 =>
 bif (!r4) then
 some (.inr (.inr false))
 else
 (bif (decide (0 < st2)) then
 (idx p_l (w64 (st2 - 1))).bind fun e5 =>
 (bif (decide (e3.1 < e5.1)) then
 some true
 else
 (idx p_l (w64 (st2 - 1))).bind fun e6 =>
 (bif (decide (e6.1 = e3.1)) then
 (idx p_l (w64 (st2 - 1))).bind fun e7 =>
 some (decide (e3.2.1 ≤ e7.2.2.1))
 else
 some false).bind fun c8 =>
 some c8).bind fun c9 =>
 some c9
 else
 some false).bind fun c10 =>
 bif c10 then
 some (.inr (.inr false))
 else
 some (.inl (w64 (st2 + 1)))
 else
 some (.inr (.inl ())) : Option ((Int) ⊕ (Unit ⊕ Bool)))) 0).bind fun o11 =>
 match o11 with
 | .inl _ =>
  some (decide ((p_l.length : Int) ≤ 60))
 | .inr y13 =>
  some y13
def C169 : FnSpec := { ps := [.val TGNet, .val (.slice TGTower)], rs := [.val .bool], fn := fun x => s_fgGood x.1 x.2 }
def E169 : Env := { T := [(3, (.int .i64)), (46, TGNet), (65, (.slice TGTower)), (155, TGTower)], G := [(170, C170)], ro := [2], loops := [(2, { keep := [1, 2, 7, 8], live := [.tv 9 (.int .i64)], outs := [(.exit 0, []), (.ret, [.tv 4 .bool])] })], joins := [] }
theorem S169 : Sound Tryz.prog 169 C169 := fun_sound (E := E169) ⟨good_T (by kernel_rfl), (good_cons S170 ⟨_, Tryz.func170, by kernel_rfl, by kernel_rfl⟩ good_nil), mixedOk, ins_nil⟩ Tryz.func169 rfl fun _ => by kernel_rfl
def s_l1Most (p_a : Int) (p_b : Int) : Option (Int) :=
 bif (decide (p_b < p_a)) then
 some p_a
 else
 some p_b
def C188 : FnSpec := { ps := [.val (.int .i64), .val (.int .i64)], rs := [.val (.int .i64)], fn := fun x => s_l1Most x.1 x.2 }
def E188 : Env := { T := [], G := [], ro := [], loops := [], joins := [] }
theorem S188 : Sound Tryz.prog 188 C188 := fun_sound (E := E188) ⟨good_T (by kernel_rfl), good_nil, mixedOk, ins_nil⟩ Tryz.func188 rfl fun _ => by kernel_rfl
def s_l1Least (p_a : Int) (p_b : Int) : Option (Int) :=
 bif (decide (p_a < p_b)) then
 some p_a
 else
 some p_b
def C232 : FnSpec := { ps := [.val (.int .i64), .val (.int .i64)], rs := [.val (.int .i64)], fn := fun x => s_l1Least x.1 x.2 }
def E232 : Env := { T := [], G := [], ro := [], loops := [], joins := [] }
theorem S232 : Sound Tryz.prog 232 C232 := fun_sound (E := E232) ⟨good_T (by kernel_rfl), good_nil, mixedOk, ins_nil⟩ Tryz.func232 rfl fun _ => by kernel_rfl
def s_fgAdd (p_l : List GTower) (p_x : GTower) : Option ((List GTower)) :=
 (loopE (fun (st2 : Int × Int × Int × (List GTower) × Int × Int) => (
 bif (decide (st2.2.2.2.2.2 < (p_l.length : Int))) then
 (idx p_l st2.2.2.2.2.2).bind fun e3 =>
 (bif (decide (e3.1 = st2.1)) then
 some (decide (e3.2.1 ≤ st2.2.2.1))
 else
 some false).bind fun c4 =>
 (bif c4 then
 some (decide (st2.2.1 ≤ e3.2.2.1))
 else
 some false).bind fun c5 =>
 bif c5 then
 (s_l1Least st2.2.1 e3.2.1).bind fun r6 =>
 (s_l1Most st2.2.2.1 e3.2.2.1).bind fun r7 =>
 some (.inl (st2.1, r6, r7, st2.2.2.2.1, st2.2.2.2.2.1, (w64 (st2.2.2.2.2.2 + 1))))
 else
 bif decide (List.length st2.2.2.2.1 + List.length [e3] ≤ lim) then
 (bif (decide (e3.1 < st2.1)) then
 some true
 else
 (bif (decide (e3.1 = st2.1)) then
 some (decide (e3.2.1 < st2.2.1))
 else
 some false).bind fun c8 =>
 some c8).bind fun c9 =>
 bif c9 then
 some (.inl (st2.1, st2.2.1, st2.2.2.1, (st2.2.2.2.1 ++ [e3]), ((st2.2.2.2.1 ++ [e3]).length : Int), (w64 (st2.2.2.2.2.2 + 1))))
 else
 some (.inl (st2.1, st2.2.1, st2.2.2.1, (st2.2.2.2.1 ++ [e3]), st2.2.2.2.2.1, (w64 (st2.2.2.2.2.2 + 1))))
 else
 none
 else
 some (.inr (st2.1, st2.2.1, st2.2.2.1, st2.2.2.2.1, st2.2.2.2.2.1)) : Option ((Int × Int × Int × (List GTower) × Int × Int) ⊕ ((Int × Int × Int × (List GTower) × Int))))) (p_x.1, p_x.2.1, p_x.2.2.1, [], 0, 0)).bind fun o10 =>
 (sub o10.2.2.2.1 0 o10.2.2.2.2).bind fun l11 =>
 (sub o10.2.2.2.1 o10.2.2.2.2 (o10.2.2.2.1.length : Int)).bind fun l12 =>
 bothSame (
 bothSame (
 bif decide (List.length l11 ≤ lim) then
 bif decide (List.length l11 + List.length [(o10.1, o10.2.1, o10.2.2.1, ())] ≤ lim) then
 bif decide (List.length (l11 ++ [(o10.1, o10.2.1, o10.2.2.1, ())]) + List.length l12 ≤ lim) then
 some ((l11 ++ [(o10.1, o10.2.1, o10.2.2.1, ())]) ++ l12)
 else
 none
 else
 none
 else
 none)
 (
 bothSame (
 bif decide (List.length l11 ≤ lim) then
 bif decide (List.length l11 + List.length [(o10.1, o10.2.1, o10.2.2.1, ())] ≤ lim) then
 bif decide (List.length (l11 ++ [(o10.1, o10.2.1, o10.2.2.1, ())]) + List.length l12 ≤ lim) then
 some ((l11 ++ [(o10.1, o10.2.1, o10.2.2.1, ())]) ++ l12)
 else
 none
 else
 none
 else
 none)
 (
 bif decide (List.length l11 ≤ lim) then
 bif decide (List.length l11 + List.length [(o10.1, o10.2.1, o10.2.2.1, ())] ≤ lim) then
 bif decide (List.length (l11 ++ [(o10.1, o10.2.1, o10.2.2.1, ())]) + List.length l12 ≤ lim) then
 some ((l11 ++ [(o10.1, o10.2.1, o10.2.2.1, ())]) ++ l12)
 else
 none
 else
 none
 else
 none)))
 (
 bothSame (
 bothSame (
 bif decide (List.length l11 ≤ lim) then
 bif decide (List.length l11 + List.length [(o10.1, o10.2.1, o10.2.2.1, ())] ≤ lim) then
 bif decide (List.length (l11 ++ [(o10.1, o10.2.1, o10.2.2.1, ())]) + List.length l12 ≤ lim) then
 some ((l11 ++ [(o10.1, o10.2.1, o10.2.2.1, ())]) ++ l12)
 else
 none
 else
 none
 else
 none)
 (
 bif decide (List.length l11 ≤ lim) then
 bif decide (List.length l11 + List.length [(o10.1, o10.2.1, o10.2.2.1, ())] ≤ lim) then
 bif decide (List.length (l11 ++ [(o10.1, o10.2.1, o10.2.2.1, ())]) + List.length l12 ≤ lim) then
 some ((l11 ++ [(o10.1, o10.2.1, o10.2.2.1, ())]) ++ l12)
 else
 none
 else
 none
 else
 none))
 (
 bif decide (List.length l11 ≤ lim) then
 bif decide (List.length l11 + List.length [(o10.1, o10.2.1, o10.2.2.1, ())] ≤ lim) then
 bif decide (List.length (l11 ++ [(o10.1, o10.2.1, o10.2.2.1, ())]) + List.length l12 ≤ lim) then
 some ((l11 ++ [(o10.1, o10.2.1, o10.2.2.1, ())]) ++ l12)
 else
 none
 else
 none
 else
 none))
def C171 : FnSpec := { ps := [.val (.slice TGTower), .val TGTower], rs := [.own (.slice TGTower)], fn := fun x => s_fgAdd x.1 x.2 }
def E171 : Env := { T := [(3, (.int .i64)), (65, (.slice TGTower)), (155, TGTower)], G := [(188, C188), (232, C232)], ro := [], loops := [(4, { keep := [9, 10], live := [.bx 3 48 [.pv (.int .i64), .pv (.int .i64), .pv (.int .i64)], .own 5 [] 200005 TGTower true, .tv 6 (.int .i64), .tv 11 (.int .i64)], outs := [(.exit 0, [.bx 3 48 [.pv (.int .i64), .pv (.int .i64), .pv (.int .i64)], .own 5 [] 200005 TGTower true, .tv 6 (.int .i64)])] })], joins := [], pre := [(13, [200005])], every := [13] }
theorem S171 : Sound Tryz.prog 171 C171 := fun_sound (E := E171) ⟨good_T (by kernel_rfl), (good_cons S188 ⟨_, Tryz.func188, by kernel_rfl, by kernel_rfl⟩ (good_cons S232 ⟨_, Tryz.func232, by kernel_rfl, by kernel_rfl⟩ good_nil)), mixedOk, ins_nil⟩ Tryz.func171 rfl fun _ => by kernel_rfl
def s_AddFog (p_n : GNet) (p_l : List GTower) (p_x : GTower) : Option ((List GTower) × Bool) :=
 (s_neGood p_n).bind fun r1 =>
 (bif (!r1) then
 some true
 else
 (s_fgGood p_n p_l).bind fun r2 =>
 some (!r2)).bind fun c3 =>
 (bif c3 then
 some true
 else
 (s_fgFog p_n p_x).bind fun r4 =>
 some (!r4)).bind fun c5 =>
 (bif c5 then
 some true
 else
 (s_fgAdd p_l p_x).bind fun r6 =>
 (s_fgGood p_n r6).bind fun r7 =>
 some (!r7)).bind fun c8 =>
 bif c8 then
 some ([], false)
 else
 (s_fgAdd p_l p_x).bind fun r9 =>
 some (r9, true)
def C128 : FnSpec := { ps := [.val TGNet, .val (.slice TGTower), .val TGTower], rs := [.own (.slice TGTower), .val .bool], fn := fun x => s_AddFog x.1 x.2.1 x.2.2 }
def E128 : Env := { T := [(46, TGNet), (155, TGTower)], G := [(126, C126), (169, C169), (170, C170), (171, C171)], ro := [3, 5], loops := [], joins := [] }
theorem S128 : Sound Tryz.prog 128 C128 := fun_sound (E := E128) ⟨good_T (by kernel_rfl), (good_cons S126 ⟨_, Tryz.func126, by kernel_rfl, by kernel_rfl⟩ (good_cons S169 ⟨_, Tryz.func169, by kernel_rfl, by kernel_rfl⟩ (good_cons S170 ⟨_, Tryz.func170, by kernel_rfl, by kernel_rfl⟩ (good_cons S171 ⟨_, Tryz.func171, by kernel_rfl, by kernel_rfl⟩ good_nil)))), mixedOk, ins_nil⟩ Tryz.func128 rfl fun _ => by kernel_rfl
def s_csState_fog (p_x : GcsState) (p_n : List Int) : Option (GcsState × Bytes) :=
 (idx p_n 0).bind fun e1 =>
 (idx p_n 1).bind fun e2 =>
 (idx p_n 2).bind fun e3 =>
 (s_AddFog p_x.1 p_x.2.1 (e1, e2, e3, ())).bind fun r4 =>
 bif r4.2 then
 (s_csDone r4.2).bind fun r5 =>
 some ((p_x.1, r4.1, p_x.2.2), r5)
 else
 (s_csDone r4.2).bind fun r6 =>
 some (p_x, r6)
def C99 : FnSpec := { ps := [.obox TGcsState, .val (.slice (.int .i64))], rs := [.val .str], fn := fun x => s_csState_fog x.1 x.2 }
def E99 : Env := { T := [(3, (.int .i64)), (26, (.slice (.int .i64))), (46, TGNet), (65, (.slice TGTower)), (83, TGcsState), (155, TGTower)], G := [(124, C124), (128, C128)], ro := [], loops := [], joins := [] }
theorem S99 : Sound Tryz.prog 99 C99 := fun_sound_obox (E := E99) ⟨good_T (by kernel_rfl), (good_cons S124 ⟨_, Tryz.func124, by kernel_rfl, by kernel_rfl⟩ (good_cons S128 ⟨_, Tryz.func128, by kernel_rfl, by kernel_rfl⟩ good_nil)), mixedOk, ins_nil⟩ Tryz.func99 rfl rfl fun _ => by kernel_rfl
def s_shBefore (p_a : GTower) (p_b : GTower) : Option (Bool) :=
 (bif (decide (p_a.2.1 < p_b.2.1)) then
 some true
 else
 (bif (decide (p_a.2.1 = p_b.2.1)) then
 some (decide (p_a.1 < p_b.1))
 else
 some false).bind fun c1 =>
 some c1).bind fun c2 =>
 some c2
def C172 : FnSpec := { ps := [.val TGTower, .val TGTower], rs := [.val .bool], fn := fun x => s_shBefore x.1 x.2 }
def E172 : Env := { T := [(3, (.int .i64)), (159, TGTower)], G := [], ro := [2, 3], loops := [], joins := [] }
theorem S172 : Sound Tryz.prog 172 C172 := fun_sound (E := E172) ⟨good_T (by kernel_rfl), good_nil, mixedOk, ins_nil⟩ Tryz.func172 rfl fun _ => by kernel_rfl
def s_shHour (p_h : Int) : Option (Bool) :=
 (s_l1In p_h 0 167).bind fun r1 =>
 some r1
def C183 : FnSpec := { ps := [.val (.int .i64)], rs := [.val .bool], fn := fun x => s_shHour x }
def E183 : Env := { T := [], G := [(120, C120)], ro := [], loops := [], joins := [] }
theorem S183 : Sound Tryz.prog 183 C183 := fun_sound (E := E183) ⟨good_T (by kernel_rfl), (good_cons S120 ⟨_, Tryz.func120, by kernel_rfl, by kernel_rfl⟩ good_nil), mixedOk, ins_nil⟩ Tryz.func183 rfl fun _ => by kernel_rfl
def s_shOperator (p_n : Int) : Option (Bool) :=
 (s_l1In p_n 1 30).bind fun r1 =>
 some r1
def C233 : FnSpec := { ps := [.val (.int .i64)], rs := [.val .bool], fn := fun x => s_shOperator x }
def E233 : Env := { T := [], G := [(120, C120)], ro := [], loops := [], joins := [] }
theorem S233 : Sound Tryz.prog 233 C233 := fun_sound (E := E233) ⟨good_T (by kernel_rfl), (good_cons S120 ⟨_, Tryz.func120, by kernel_rfl, by kernel_rfl⟩ good_nil), mixedOk, ins_nil⟩ Tryz.func233 rfl fun _ => by kernel_rfl
def s_shGood (p_l : List GTower) : Option (Bool) :=
 (loopE (fun (st2 : Int) => (
 bif (decide (st2 < (p_l.length : Int))) then
 (idx p_l st2).bind fun e3 =>
 (s_shOperator e3.1).bind fun r4 =>
 (bif (!r4) then
 some true
 else
 (s_shHour e3.2.1).bind fun r5 =>
 some (!r5)).bind fun c6 =>
 (bif c6 then
 some true
 else
 (s_l1In e3.2.2.1 (w64 (e3.2.1 + 1)) 168).bind fun r7 =>
 some (!r7)).bind fun c8 =>
 (bif c8 then
 some true
 else
 (bif (decide (0 < st2)) then
 (idx p_l (w64 (st2 - 1))).bind fun e9 =>
 (s_shBefore e9 e3).bind fun r10 =>
 some (!r10)
 else
 some false).bind fun c11 =>
 some c11).bind fun c12 =>
 bif c12 then
 some (.inr (.inr false))
 else
 (sub p_l 0 st2).bind fun l13 =>
 (loopE (fun (st15 : Int × Int × Int × Int) => (
 bif (decide (st15.2.2.2 < (l13.length : Int))) then
 (idx l13 st15.2.2.2).bind fun e16 =>
 (bif (decide (e16.1 = st15.1)) then
 some (decide (st15.2.1 < e16.2.2.1))
 else
 some false).bind fun c17 =>
 bif c17 then
 some (.inr (.inr false))
 else
 some (.inl (st15.1, st15.2.1, st15.2.2.1, (w64 (st15.2.2.2 + 1))))
 else
 some (.inr (.inl ())) : Option ((Int × Int × Int × Int) ⊕ (Unit ⊕ Bool)))) (e3.1, e3.2.1, e3.2.2.1, 0)).bind fun o18 =>
 match o18 with
 | .inl _ =>
  some (.inl (w64 (st2 + 1)))
 | .inr y20 =>
  some (.inr (.inr y20))
 else
 some (.inr (.inl ())) : Option ((Int) ⊕ (Unit ⊕ Bool)))) 0).bind fun o21 =>
 match o21 with
 | .inl _ =>
  some (decide ((p_l.length : Int) ≤ 60))
 | .inr y23 =>
  some y23
def C173 : FnSpec := { ps := [.val (.slice TGTower)], rs := [.val .bool], fn := fun x => s_shGood x }
def E173 : Env := { T := [(3, (.int .i64)), (68, (.slice TGTower)), (159, TGTower)], G := [(120, C120), (172, C172), (183, C183), (233, C233)], ro := [], loops := [(2, { keep := [0, 7, 8], live := [.tv 9 (.int .i64)], outs := [(.exit 0, []), (.ret, [.tv 2 .bool])] }), (7, { keep := [0, 7, 8, 9, 19, 20, 21, 22, 25, 26, 27, 28, 29, 30, 31, 34, 35, 36, 37, 38, 39, 40, 41, 42, 43, 44, 45, 49, 50], live := [.bx 4 64 [.pv (.int .i64), .pv (.int .i64), .pv (.int .i64)], .tv 51 (.int .i64)], outs := [(.exit 2, []), (.ret, [.tv 2 .bool])] })], joins := [] }
theorem S173 : Sound Tryz.prog 173 C173 := fun_sound (E := E173) ⟨good_T (by kernel_rfl), (good_cons S120 ⟨_, Tryz.func120, by kernel_rfl, by kernel_rfl⟩ (good_cons S172 ⟨_, Tryz.func172, by kernel_rfl, by kernel_rfl⟩ (good_cons S183 ⟨_, Tryz.func183, by kernel_rfl, by kernel_rfl⟩ (good_cons S233 ⟨_, Tryz.func233, by kernel_rfl, by kernel_rfl⟩ good_nil)))), mixedOk, ins_nil⟩ Tryz.func173 rfl fun _ => by kernel_rfl
def s_shSort (p_l : List GTower) : Option ((List GTower) × Bool) :=
 (loopE (fun (st2 : (List GTower) × Int) => (
 bif (decide (st2.2 < (p_l.length : Int))) then
 (idx p_l st2.2).bind fun e3 =>
 (loopE (fun (st5 : (List GTower) × Int × Int × Int × Int) => (
 (bif (decide (0 < st5.2.2.2.2)) then
 bif decide (0 ≤ (w64 (st5.2.2.2.2 - 1))) && decide ((w64 (st5.2.2.2.2 - 1)) < (st5.1.length : Int)) then
 (st5.1[(Int.toNat (w64 (st5.2.2.2.2 - 1)))]?).bind fun e6 =>
 (s_shBefore (st5.2.1, st5.2.2.1, st5.2.2.2.1, ()) e6).bind fun r7 =>
 some r7
 else
 none
 else
 some false).bind fun c8 =>
 bif c8 then
 some (.inl (st5.1, st5.2.1, st5.2.2.1, st5.2.2.2.1, (w64 (st5.2.2.2.2 - 1))))
 else
 some (.inr (st5.1, st5.2.1, st5.2.2.1, st5.2.2.2.1, st5.2.2.2.2)) : Option (((List GTower) × Int × Int × Int × Int) ⊕ (((List GTower) × Int × Int × Int × Int))))) (st2.1, e3.1, e3.2.1, e3.2.2.1, (st2.1.length : Int))).bind fun o9 =>
 (sub o9.1 0 o9.2.2.2.2).bind fun l10 =>
 (sub o9.1 o9.2.2.2.2 (o9.1.length : Int)).bind fun l11 =>
 bothSame (
 bothSame (
 bif decide (List.length l10 ≤ lim) then
 bif decide (List.length l10 + List.length [(o9.2.1, o9.2.2.1, o9.2.2.2.1, ())] ≤ lim) then
 bif decide (List.length (l10 ++ [(o9.2.1, o9.2.2.1, o9.2.2.2.1, ())]) + List.length l11 ≤ lim) then
 some (.inl (((l10 ++ [(o9.2.1, o9.2.2.1, o9.2.2.2.1, ())]) ++ l11), (w64 (st2.2 + 1))))
 else
 none
 else
 none
 else
 none)
 (
 bothSame (
 bif decide (List.length l10 ≤ lim) then
 bif decide (List.length l10 + List.length [(o9.2.1, o9.2.2.1, o9.2.2.2.1, ())] ≤ lim) then
 bif decide (List.length (l10 ++ [(o9.2.1, o9.2.2.1, o9.2.2.2.1, ())]) + List.length l11 ≤ lim) then
 some (.inl (((l10 ++ [(o9.2.1, o9.2.2.1, o9.2.2.2.1, ())]) ++ l11), (w64 (st2.2 + 1))))
 else
 none
 else
 none
 else
 none)
 (
 bif decide (List.length l10 ≤ lim) then
 bif decide (List.length l10 + List.length [(o9.2.1, o9.2.2.1, o9.2.2.2.1, ())] ≤ lim) then
 bif decide (List.length (l10 ++ [(o9.2.1, o9.2.2.1, o9.2.2.2.1, ())]) + List.length l11 ≤ lim) then
 some (.inl (((l10 ++ [(o9.2.1, o9.2.2.1, o9.2.2.2.1, ())]) ++ l11), (w64 (st2.2 + 1))))
 else
 none
 else
 none
 else
 none)))
 (
 bothSame (
 bothSame (
 bif decide (List.length l10 ≤ lim) then
 bif decide (List.length l10 + List.length [(o9.2.1, o9.2.2.1, o9.2.2.2.1, ())] ≤ lim) then
 bif decide (List.length (l10 ++ [(o9.2.1, o9.2.2.1, o9.2.2.2.1, ())]) + List.length l11 ≤ lim) then
 some (.inl (((l10 ++ [(o9.2.1, o9.2.2.1, o9.2.2.2.1, ())]) ++ l11), (w64 (st2.2 + 1))))
 else
 none
 else
 none
 else
 none)
 (
 bif decide (List.length l10 ≤ lim) then
 bif decide (List.length l10 + List.length [(o9.2.1, o9.2.2.1, o9.2.2.2.1, ())] ≤ lim) then
 bif decide (List.length (l10 ++ [(o9.2.1, o9.2.2.1, o9.2.2.2.1, ())]) + List.length l11 ≤ lim) then
 some (.inl (((l10 ++ [(o9.2.1, o9.2.2.1, o9.2.2.2.1, ())]) ++ l11), (w64 (st2.2 + 1))))
 else
 none
 else
 none
 else
 none))
 (
 bif decide (List.length l10 ≤ lim) then
 bif decide (List.length l10 + List.length [(o9.2.1, o9.2.2.1, o9.2.2.2.1, ())] ≤ lim) then
 bif decide (List.length (l10 ++ [(o9.2.1, o9.2.2.1, o9.2.2.2.1, ())]) + List.length l11 ≤ lim) then
 some (.inl (((l10 ++ [(o9.2.1, o9.2.2.1, o9.2.2.2.1, ())]) ++ l11), (w64 (st2.2 + 1))))
 else
 none
 else
 none
 else
 none))
 else
 some (.inr st2.1) : Option (((List GTower) × Int) ⊕ ((List GTower))))) ([], 0)).bind fun o12 =>
 (s_shGood o12).bind fun r13 =>
 bif (!r13) then
 some ([], false)
 else
 some (o12, true)
def C129 : FnSpec := { ps := [.val (.slice TGTower)], rs := [.own (.slice TGTower), .val .bool], fn := fun x => s_shSort x }
def E129 : Env := { T := [(68, (.slice TGTower)), (159, TGTower)], G := [(172, C172), (173, C173)], ro := [], loops := [(3, { keep := [8, 9], live := [.own 4 [] 200004 TGTower true, .tv 10 (.int .i64)], outs := [(.exit 0, [.own 4 [] 200004 TGTower true])] }), (6, { keep := [8, 9, 10], live := [.own 4 [] 200004 TGTower true, .bx 6 96 [.pv (.int .i64), .pv (.int .i64), .pv (.int .i64)], .tv 7 (.int .i64)], outs := [(.exit 2, [.own 4 [] 200004 TGTower true, .bx 6 96 [.pv (.int .i64), .pv (.int .i64), .pv (.int .i64)], .tv 7 (.int .i64)])] })], joins := [], pre := [(8, [200004])], every := [8] }
theorem S129 : Sound Tryz.prog 129 C129 := fun_sound (E := E129) ⟨good_T (by kernel_rfl), (good_cons S172 ⟨_, Tryz.func172, by kernel_rfl, by kernel_rfl⟩ (good_cons S173 ⟨_, Tryz.func173, by kernel_rfl, by kernel_rfl⟩ good_nil)), mixedOk, ins_nil⟩ Tryz.func129 rfl fun _ => by kernel_rfl
def s_csState_shift (p_x : GcsState) (p_n : List Int) : Option (GcsState × Bytes) :=
 bif decide (List.length p_x.2.2.2.2.2.1 ≤ lim) then
 (idx p_n 0).bind fun e1 =>
 (idx p_n 1).bind fun e2 =>
 (idx p_n 2).bind fun e3 =>
 bif decide (List.length p_x.2.2.2.2.2.1 + List.length [(e1, e2, e3, ())] ≤ lim) then
 (s_shSort (p_x.2.2.2.2.2.1 ++ [(e1, e2, e3, ())])).bind fun r4 =>
 bif r4.2 then
 (s_csDone r4.2).bind fun r5 =>
 some ((p_x.1, p_x.2.1, p_x.2.2.1, p_x.2.2.2.1, p_x.2.2.2.2.1, r4.1, p_x.2.2.2.2.2.2), r5)
 else
 (s_csDone r4.2).bind fun r6 =>
 some (p_x, r6)
 else
 none
 else
 none
def C100 : FnSpec := { ps := [.obox TGcsState, .val (.slice (.int .i64))], rs := [.val .str], fn := fun x => s_csState_shift x.1 x.2 }
def E100 : Env := { T := [(3, (.int .i64)), (26, (.slice (.int .i64))), (68, (.slice TGTower)), (83, TGcsState), (159, TGTower)], G := [(124, C124), (129, C129)], ro := [], loops := [], joins := [] }
theorem S100 : Sound Tryz.prog 100 C100 := fun_sound_obox (E := E100) ⟨good_T (by kernel_rfl), (good_cons S124 ⟨_, Tryz.func124, by kernel_rfl, by kernel_rfl⟩ (good_cons S129 ⟨_, Tryz.func129, by kernel_rfl, by kernel_rfl⟩ good_nil)), mixedOk, ins_nil⟩ Tryz.func100 rfl rfl fun _ => by kernel_rfl
def s_spSignals (p_b : GBook) (p_signals : List Int) : Option (Bool) :=
 (s_bkGood p_b).bind fun r1 =>
 (bif r1 then
 some (decide ((p_signals.length : Int) ≤ 60))
 else
 some false).bind fun c2 =>
 (bif c2 then
 (s_l1All p_signals 1 60).bind fun r3 =>
 some r3
 else
 some false).bind fun c4 =>
 some c4
def C130 : FnSpec := { ps := [.val TGBook, .val (.slice (.int .i64))], rs := [.val .bool], fn := fun x => s_spSignals x.1 x.2 }
def E130 : Env := { T := [(26, (.slice (.int .i64))), (38, TGBook)], G := [(163, C163), (174, C174)], ro := [2], loops := [], joins := [] }
theorem S130 : Sound Tryz.prog 130 C130 := fun_sound (E := E130) ⟨good_T (by kernel_rfl), (good_cons S163 ⟨_, Tryz.func163, by kernel_rfl, by kernel_rfl⟩ (good_cons S174 ⟨_, Tryz.func174, by kernel_rfl, by kernel_rfl⟩ good_nil)), mixedOk, ins_nil⟩ Tryz.func130 rfl fun _ => by kernel_rfl
def s_bkBegins (p_a : List Int) (p_b : List Int) : Option (Bool) :=
 (bif (decide ((p_a.length : Int) ≤ (p_b.length : Int))) then
 (sub p_b 0 (p_a.length : Int)).bind fun l1 =>
 (s_l1Same p_a l1).bind fun r2 =>
 some r2
 else
 some false).bind fun c3 =>
 some c3
def C175 : FnSpec := { ps := [.val (.slice (.int .i64)), .val (.slice (.int .i64))], rs := [.val .bool], fn := fun x => s_bkBegins x.1 x.2 }
def E175 : Env := { T := [(26, (.slice (.int .i64)))], G := [(234, C234)], ro := [], loops := [], joins := [] }
theorem S175 : Sound Tryz.prog 175 C175 := fun_sound (E := E175) ⟨good_T (by kernel_rfl), (good_cons S234 ⟨_, Tryz.func234, by kernel_rfl, by kernel_rfl⟩ good_nil), mixedOk, ins_nil⟩ Tryz.func175 rfl fun _ => by kernel_rfl
def s_spWays (p_b : GBook) (p_signals : List Int) : Option ((List Int)) :=
 bif decide (0 ≤ (w64 ((p_signals.length : Int) + 1))) && decide ((w64 ((p_signals.length : Int) + 1)) ≤ (w64 ((p_signals.length : Int) + 1))) && decide ((w64 ((p_signals.length : Int) + 1)) ≤ lim) then
 bif decide (0 ≤ (p_signals.length : Int)) && decide ((p_signals.length : Int) < ((List.replicate (Int.toNat (w64 ((p_signals.length : Int) + 1))) (0 : Int)).length : Int)) then
 (loopE (fun (st2 : (List Int) × Int) => (
 bif (decide (0 ≤ st2.2)) then
 (loopE (fun (st4 : (List Int) × Int) => (
 bif (decide (st4.2 < (p_b.1.length : Int))) then
 (idx p_b.1 st4.2).bind fun e5 =>
 (sub p_signals st2.2 (p_signals.length : Int)).bind fun l6 =>
 (s_bkBegins e5.2.1 l6).bind fun r7 =>
 bif r7 then
 bif decide (0 ≤ st2.2) && decide (st2.2 < (st4.1.length : Int)) then
 (st4.1[(Int.toNat st2.2)]?).bind fun e8 =>
 bif decide (0 ≤ (w64 (st2.2 + (e5.2.1.length : Int)))) && decide ((w64 (st2.2 + (e5.2.1.length : Int))) < (st4.1.length : Int)) then
 (st4.1[(Int.toNat (w64 (st2.2 + (e5.2.1.length : Int))))]?).bind fun e9 =>
 bif decide (0 ≤ st2.2) && decide (st2.2 < (st4.1.length : Int)) then
 some (.inl ((st4.1.set (Int.toNat st2.2) (w64 (e8 + e9))), (w64 (st4.2 + 1))))
 else
 none
 else
 none
 else
 none
 else
 some (.inl (st4.1, (w64 (st4.2 + 1))))
 else
 some (.inr st4.1) : Option (((List Int) × Int) ⊕ ((List Int))))) (st2.1, 0)).bind fun o10 =>
 some (.inl (o10, (w64 (st2.2 - 1))))
 else
 some (.inr st2.1) : Option (((List Int) × Int) ⊕ ((List Int))))) (((List.replicate (Int.toNat (w64 ((p_signals.length : Int) + 1))) (0 : Int)).set (Int.toNat (p_signals.length : Int)) 1), (w64 ((p_signals.length : Int) - 1)))).bind fun o11 =>
 some o11
 else
 none
 else
 none
def C131 : FnSpec := { ps := [.val TGBook, .val (.slice (.int .i64))], rs := [.own (.slice (.int .i64))], fn := fun x => s_spWays x.1 x.2 }
def E131 : Env := { T := [(3, (.int .i64)), (26, (.slice (.int .i64))), (36, (.slice TGPhrase)), (38, TGBook), (108, TGPhrase)], G := [(175, C175)], ro := [2], loops := [(4, { keep := [1, 2], live := [.own 5 [] 192 (.int .i64) true, .tv 6 (.int .i64)], outs := [(.exit 0, [.own 5 [] 192 (.int .i64) true])] }), (7, { keep := [1, 2, 6, 25, 26], live := [.own 5 [] 192 (.int .i64) true, .tv 27 (.int .i64)], outs := [(.exit 2, [.own 5 [] 192 (.int .i64) true])] })], joins := [] }
theorem S131 : Sound Tryz.prog 131 C131 := fun_sound (E := E131) ⟨good_T (by kernel_rfl), (good_cons S175 ⟨_, Tryz.func175, by kernel_rfl, by kernel_rfl⟩ good_nil), mixedOk, ins_nil⟩ Tryz.func131 rfl fun _ => by kernel_rfl
def s_spDecode (p_b : GBook) (p_signals : List Int) : Option ((List Int) × Bool) :=
 (s_spWays p_b p_signals).bind fun r1 =>
 bif decide (0 ≤ 0) && decide (0 < (r1.length : Int)) then
 (r1[(Int.toNat 0)]?).bind fun e2 =>
 bif (decide (e2 = 0)) then
 some ([], false)
 else
 (loopE (fun (st4 : (List Int) × (List Int) × Int) => (
 bif (decide (st4.2.2 < (p_signals.length : Int))) then
 (loopE (fun (st6 : (List Int) × (List Int) × Int × Int) => (
 bif (decide (st6.2.2.2 < (p_b.1.length : Int))) then
 (idx p_b.1 st6.2.2.2).bind fun e7 =>
 (bif (decide (st6.2.2.1 < 0)) then
 (sub p_signals st4.2.2 (p_signals.length : Int)).bind fun l8 =>
 (s_bkBegins e7.2.1 l8).bind fun r9 =>
 some r9
 else
 some false).bind fun c10 =>
 (bif c10 then
 bif decide (0 ≤ (w64 (st4.2.2 + (e7.2.1.length : Int)))) && decide ((w64 (st4.2.2 + (e7.2.1.length : Int))) < (st6.1.length : Int)) then
 (st6.1[(Int.toNat (w64 (st4.2.2 + (e7.2.1.length : Int))))]?).bind fun e11 =>
 some (decide (0 < e11))
 else
 none
 else
 some false).bind fun c12 =>
 bif c12 then
 some (.inl (st6.1, st6.2.1, st6.2.2.2, (w64 (st6.2.2.2 + 1))))
 else
 some (.inl (st6.1, st6.2.1, st6.2.2.1, (w64 (st6.2.2.2 + 1))))
 else
 some (.inr (st6.1, st6.2.1, st6.2.2.1)) : Option (((List Int) × (List Int) × Int × Int) ⊕ (((List Int) × (List Int) × Int))))) (st4.1, st4.2.1, (-1), 0)).bind fun o13 =>
 bif decide (List.length o13.2.1 + List.length [o13.2.2] ≤ lim) then
 (idx p_b.1 o13.2.2).bind fun e14 =>
 some (.inl (o13.1, (o13.2.1 ++ [o13.2.2]), (w64 (st4.2.2 + (e14.2.1.length : Int)))))
 else
 none
 else
 some (.inr st4.2.1) : Option (((List Int) × (List Int) × Int) ⊕ ((List Int))))) (r1, [], 0)).bind fun o15 =>
 some (o15, true)
 else
 none
def C132 : FnSpec := { ps := [.val TGBook, .val (.slice (.int .i64))], rs := [.own (.slice (.int .i64)), .val .bool], fn := fun x => s_spDecode x.1 x.2 }
def E132 : Env := { T := [(3, (.int .i64)), (26, (.slice (.int .i64))), (36, (.slice TGPhrase)), (38, TGBook), (108, TGPhrase)], G := [(131, C131), (175, C175)], ro := [2], loops := [(6, { keep := [1, 2], live := [.own 6 [] 224 (.int .i64) true, .own 7 [] 200007 (.int .i64) true, .tv 8 (.int .i64)], outs := [(.exit 0, [.own 7 [] 200007 (.int .i64) true])] }), (9, { keep := [1, 2, 8, 24, 25], live := [.own 6 [] 224 (.int .i64) true, .own 7 [] 200007 (.int .i64) true, .tv 9 (.int .i64), .tv 26 (.int .i64)], outs := [(.exit 2, [.own 6 [] 224 (.int .i64) true, .own 7 [] 200007 (.int .i64) true, .tv 9 (.int .i64)])] })], joins := [] }
theorem S132 : Sound Tryz.prog 132 C132 := fun_sound (E := E132) ⟨good_T (by kernel_rfl), (good_cons S131 ⟨_, Tryz.func131, by kernel_rfl, by kernel_rfl⟩ (good_cons S175 ⟨_, Tryz.func175, by kernel_rfl, by kernel_rfl⟩ good_nil)), mixedOk, ins_nil⟩ Tryz.func132 rfl fun _ => by kernel_rfl
def s_spText (p_b : GBook) (p_l : List Int) : Option (Bytes) :=
 (loopE (fun (st2 : Bytes × Int) => (
 bif (decide (st2.2 < (p_l.length : Int))) then
 (idx p_l st2.2).bind fun e3 =>
 (idx p_b.1 e3).bind fun e4 =>
 bif decide (List.length st2.1 + List.length e4.1 ≤ lim) then
 some (.inl ((st2.1 ++ e4.1), (w64 (st2.2 + 1))))
 else
 none
 else
 some (.inr st2.1) : Option ((Bytes × Int) ⊕ (Bytes)))) ([], 0)).bind fun o5 =>
 some o5
def C133 : FnSpec := { ps := [.val TGBook, .val (.slice (.int .i64))], rs := [.val .str], fn := fun x => s_spText x.1 x.2 }
def E133 : Env := { T := [(3, (.int .i64)), (9, .str), (26, (.slice (.int .i64))), (36, (.slice TGPhrase)), (38, TGBook), (108, TGPhrase)], G := [], ro := [2], loops := [(3, { keep := [2, 8, 9], live := [.tv 5 .str, .tv 10 (.int .i64)], outs := [(.exit 0, [.tv 5 .str])] })], joins := [] }
theorem S133 : Sound Tryz.prog 133 C133 := fun_sound (E := E133) ⟨good_T (by kernel_rfl), good_nil, mixedOk, ins_nil⟩ Tryz.func133 rfl fun _ => by kernel_rfl
def s_ReadMessage (p_b : GBook) (p_signals : List Int) : Option (Bytes × Bool) :=
 (s_spSignals p_b p_signals).bind fun r1 =>
 (bif (!r1) then
 some true
 else
 (s_spWays p_b p_signals).bind fun r2 =>
 bif decide (0 ≤ 0) && decide (0 < (r2.length : Int)) then
 (r2[(Int.toNat 0)]?).bind fun e3 =>
 some (!decide (e3 = 1))
 else
 none).bind fun c4 =>
 bif c4 then
 some ([], false)
 else
 (s_spDecode p_b p_signals).bind fun r5 =>
 (s_spText p_b r5.1).bind fun r6 =>
 some (r6, true)
def C102 : FnSpec := { ps := [.val TGBook, .val (.slice (.int .i64))], rs := [.val .str, .val .bool], fn := fun x => s_ReadMessage x.1 x.2 }
def E102 : Env := { T := [(3, (.int .i64)), (26, (.slice (.int .i64))), (38, TGBook)], G := [(130, C130), (131, C131), (132, C132), (133, C133)], ro := [2], loops := [], joins := [] }
theorem S102 : Sound Tryz.prog 102 C102 := fun_sound (E := E102) ⟨good_T (by kernel_rfl), (good_cons S130 ⟨_, Tryz.func130, by kernel_rfl, by kernel_rfl⟩ (good_cons S131 ⟨_, Tryz.func131, by kernel_rfl, by kernel_rfl⟩ (good_cons S132 ⟨_, Tryz.func132, by kernel_rfl, by kernel_rfl⟩ (good_cons S133 ⟨_, Tryz.func133, by kernel_rfl, by kernel_rfl⟩ good_nil)))), mixedOk, ins_nil⟩ Tryz.func102 rfl fun _ => by kernel_rfl
def s_scContents (p_l : List Int) : Option (Bool) :=
 (s_l1All p_l 1 60).bind fun r1 =>
 some r1
def C176 : FnSpec := { ps := [.val (.slice (.int .i64))], rs := [.val .bool], fn := fun x => s_scContents x }
def E176 : Env := { T := [], G := [(174, C174)], ro := [], loops := [], joins := [] }
theorem S176 : Sound Tryz.prog 176 C176 := fun_sound (E := E176) ⟨good_T (by kernel_rfl), (good_cons S174 ⟨_, Tryz.func174, by kernel_rfl, by kernel_rfl⟩ good_nil), mixedOk, ins_nil⟩ Tryz.func176 rfl fun _ => by kernel_rfl
def s_l1Rising (p_l : List Int) (p_lo : Int) (p_hi : Int) : Option (Bool) :=
 (loopE (fun (st2 : Int) => (
 bif (decide (st2 < (p_l.length : Int))) then
 (idx p_l st2).bind fun e3 =>
 (s_l1In e3 p_lo p_hi).bind fun r4 =>
 (bif (!r4) then
 some true
 else
 (bif (decide (0 < st2)) then
 (idx p_l (w64 (st2 - 1))).bind fun e5 =>
 some (decide (e3 ≤ e5))
 else
 some false).bind fun c6 =>
 some c6).bind fun c7 =>
 bif c7 then
 some (.inr (.inr false))
 else
 some (.inl (w64 (st2 + 1)))
 else
 some (.inr (.inl ())) : Option ((Int) ⊕ (Unit ⊕ Bool)))) 0).bind fun o8 =>
 match o8 with
 | .inl _ =>
  some true
 | .inr y10 =>
  some y10
def C287 : FnSpec := { ps := [.val (.slice (.int .i64)), .val (.int .i64), .val (.int .i64)], rs := [.val .bool], fn := fun x => s_l1Rising x.1 x.2.1 x.2.2 }
def E287 : Env := { T := [(3, (.int .i64)), (26, (.slice (.int .i64)))], G := [(120, C120)], ro := [], loops := [(2, { keep := [0, 1, 2, 9, 10], live := [.tv 11 (.int .i64)], outs := [(.exit 0, []), (.ret, [.tv 6 .bool])] })], joins := [] }
theorem S287 : Sound Tryz.prog 287 C287 := fun_sound (E := E287) ⟨good_T (by kernel_rfl), (good_cons S120 ⟨_, Tryz.func120, by kernel_rfl, by kernel_rfl⟩ good_nil), mixedOk, ins_nil⟩ Tryz.func287 rfl fun _ => by kernel_rfl
def s_kyGood (p_b : GKeyBook) : Option (Bool) :=
 (s_l1In p_b.1 0 1000000000).bind fun r1 =>
 (bif r1 then
 (s_l1In p_b.2.1 1 60).bind fun r2 =>
 some r2
 else
 some false).bind fun c3 =>
 (bif c3 then
 (s_l1Rising p_b.2.2.1 0 (w64 (p_b.2.1 - 1))).bind fun r4 =>
 some r4
 else
 some false).bind fun c5 =>
 some c5
def C235 : FnSpec := { ps := [.val TGKeyBook], rs := [.val .bool], fn := fun x => s_kyGood x }
def E235 : Env := { T := [(3, (.int .i64)), (26, (.slice (.int .i64))), (67, TGKeyBook)], G := [(120, C120), (287, C287)], ro := [1], loops := [], joins := [] }
theorem S235 : Sound Tryz.prog 235 C235 := fun_sound (E := E235) ⟨good_T (by kernel_rfl), (good_cons S120 ⟨_, Tryz.func120, by kernel_rfl, by kernel_rfl⟩ (good_cons S287 ⟨_, Tryz.func287, by kernel_rfl, by kernel_rfl⟩ good_nil)), mixedOk, ins_nil⟩ Tryz.func235 rfl fun _ => by kernel_rfl
def s_l1Has (p_l : List Int) (p_n : Int) : Option (Bool) :=
 (loopE (fun (st2 : Int) => (
 bif (decide (st2 < (p_l.length : Int))) then
 (idx p_l st2).bind fun e3 =>
 bif (decide (e3 = p_n)) then
 some (.inr (.inr true))
 else
 some (.inl (w64 (st2 + 1)))
 else
 some (.inr (.inl ())) : Option ((Int) ⊕ (Unit ⊕ Bool)))) 0).bind fun o4 =>
 match o4 with
 | .inl _ =>
  some false
 | .inr y6 =>
  some y6
def C288 : FnSpec := { ps := [.val (.slice (.int .i64)), .val (.int .i64)], rs := [.val .bool], fn := fun x => s_l1Has x.1 x.2 }
def E288 : Env := { T := [(3, (.int .i64)), (26, (.slice (.int .i64)))], G := [], ro := [], loops := [(2, { keep := [1, 7, 8], live := [.tv 9 (.int .i64)], outs := [(.exit 0, []), (.ret, [.tv 4 .bool])] })], joins := [] }
theorem S288 : Sound Tryz.prog 288 C288 := fun_sound (E := E288) ⟨good_T (by kernel_rfl), good_nil, mixedOk, ins_nil⟩ Tryz.func288 rfl fun _ => by kernel_rfl
def s_kyFree (p_b : GKeyBook) : Option (Int) :=
 (loopE (fun (st2 : Int) => (
 (bif (decide (st2 < p_b.2.1)) then
 (s_l1Has p_b.2.2.1 st2).bind fun r3 =>
 some r3
 else
 some false).bind fun c4 =>
 bif c4 then
 some (.inl (w64 (st2 + 1)))
 else
 some (.inr st2) : Option ((Int) ⊕ (Int)))) 0).bind fun o5 =>
 some o5
def C236 : FnSpec := { ps := [.val TGKeyBook], rs := [.val (.int .i64)], fn := fun x => s_kyFree x }
def E236 : Env := { T := [(3, (.int .i64)), (26, (.slice (.int .i64))), (67, TGKeyBook)], G := [(288, C288)], ro := [1], loops := [(2, { keep := [1], live := [.tv 3 (.int .i64)], outs := [(.exit 0, [.tv 3 (.int .i64)])] })], joins := [] }
theorem S236 : Sound Tryz.prog 236 C236 := fun_sound (E := E236) ⟨good_T (by kernel_rfl), (good_cons S288 ⟨_, Tryz.func288, by kernel_rfl, by kernel_rfl⟩ good_nil), mixedOk, ins_nil⟩ Tryz.func236 rfl fun _ => by kernel_rfl
def C51 : FnSpec := { ps := [.val (.slice (.int .i64)), .val (.int .i64)], rs := [.own (.slice (.int .i64))], fn := fun x => putNew x.1 x.2 }
theorem S51 : Sound Tryz.prog 51 C51 := put_sound
def s_kyUse (p_b : GKeyBook) (p_page : Int) : Option (GKeyBook) :=
 (putNew p_b.2.2.1 p_page).bind fun r1 =>
 some (p_b.1, p_b.2.1, r1, ())
def C237 : FnSpec := { ps := [.val TGKeyBook, .val (.int .i64)], rs := [.own TGKeyBook], fn := fun x => s_kyUse x.1 x.2 }
def E237 : Env := { T := [(3, (.int .i64)), (26, (.slice (.int .i64))), (67, TGKeyBook)], G := [(51, C51)], ro := [2], loops := [], joins := [] }
theorem S237 : Sound Tryz.prog 237 C237 := fun_sound (E := E237) ⟨good_T (by kernel_rfl), (good_cons S51 ⟨_, Tryz.func51, by kernel_rfl, by kernel_rfl⟩ good_nil), mixedOk, ins_nil⟩ Tryz.func237 rfl fun _ => by kernel_rfl
def s_UseForLength (p_b : GKeyBook) (p_n : Int) : Option (GKeyBook × (List Int) × Bool) :=
 (s_kyGood p_b).bind fun r1 =>
 (bif (!r1) then
 some true
 else
 (s_l1In p_n 0 1200).bind fun r2 =>
 some (!r2)).bind fun c3 =>
 bif c3 then
 some ((0, 0, [], ()), [], false)
 else
 (s_l1Own p_b.2.2.1).bind fun r4 =>
 (loopE (fun (st6 : Int × Int × Int × (List Int) × Int × Int × (List Int) × (List Int)) => (
 bif (decide (0 < st6.1)) then
 (s_kyFree (st6.2.2.2.2.1, st6.2.2.2.2.2.1, st6.2.2.2.2.2.2.1, ())).bind fun r7 =>
 bif (decide (r7 = p_b.2.1)) then
 some (.inr (.inr (0, 0, [], [], false)))
 else
 (s_kyUse (st6.2.2.2.2.1, st6.2.2.2.2.2.1, st6.2.2.2.2.2.2.1, ()) r7).bind fun r8 =>
 bif decide (List.length st6.2.2.2.2.2.2.2 + List.length [r7] ≤ lim) then
 some (.inl ((w64 (st6.1 - 20)), st6.2.1, st6.2.2.1, st6.2.2.2.1, r8.1, r8.2.1, r8.2.2.1, (st6.2.2.2.2.2.2.2 ++ [r7])))
 else
 none
 else
 some (.inr (.inl (st6.2.1, st6.2.2.1, st6.2.2.2.1, st6.2.2.2.2.1, st6.2.2.2.2.2.1, st6.2.2.2.2.2.2.1, st6.2.2.2.2.2.2.2))) : Option ((Int × Int × Int × (List Int) × Int × Int × (List Int) × (List Int)) ⊕ ((Int × Int × (List Int) × Int × Int × (List Int) × (List Int)) ⊕ (Int × Int × (List Int) × (List Int) × Bool))))) (p_n, 0, 0, [], p_b.1, p_b.2.1, r4, [])).bind fun o9 =>
 match o9 with
 | .inl x10 =>
  some ((x10.2.2.2.1, x10.2.2.2.2.1, x10.2.2.2.2.2.1, ()), x10.2.2.2.2.2.2, true)
 | .inr y11 =>
  some ((y11.1, y11.2.1, y11.2.2.1, ()), y11.2.2.2.1, y11.2.2.2.2)
def C177 : FnSpec := { ps := [.val TGKeyBook, .val (.int .i64)], rs := [.own TGKeyBook, .own (.slice (.int .i64)), .val .bool], fn := fun x => s_UseForLength x.1 x.2 }
def E177 : Env := { T := [(3, (.int .i64)), (26, (.slice (.int .i64))), (67, TGKeyBook)], G := [(50, C50), (120, C120), (235, C235), (236, C236), (237, C237)], ro := [2], loops := [(5, { keep := [2], live := [.tv 1 (.int .i64), .bx 4 64 [.pv (.int .i64), .pv (.int .i64), .own 300066 (.int .i64) true], .bx 7 112 [.pv (.int .i64), .pv (.int .i64), .own 400 (.int .i64) true], .own 8 [] 200008 (.int .i64) true], outs := [(.exit 0, [.bx 4 64 [.pv (.int .i64), .pv (.int .i64), .own 300066 (.int .i64) true], .bx 7 112 [.pv (.int .i64), .pv (.int .i64), .own 400 (.int .i64) true], .own 8 [] 200008 (.int .i64) true]), (.ret, [.bx 4 64 [.pv (.int .i64), .pv (.int .i64), .own 300066 (.int .i64) true], .own 5 [] 200005 (.int .i64) true, .tv 6 .bool])] })], joins := [] }
theorem S177 : Sound Tryz.prog 177 C177 := fun_sound (E := E177) ⟨good_T (by kernel_rfl), (good_cons S50 ⟨_, Tryz.func50, by kernel_rfl, by kernel_rfl⟩ (good_cons S120 ⟨_, Tryz.func120, by kernel_rfl, by kernel_rfl⟩ (good_cons S235 ⟨_, Tryz.func235, by kernel_rfl, by kernel_rfl⟩ (good_cons S236 ⟨_, Tryz.func236, by kernel_rfl, by kernel_rfl⟩ (good_cons S237 ⟨_, Tryz.func237, by kernel_rfl, by kernel_rfl⟩ good_nil))))), mixedOk, ins_nil⟩ Tryz.func177 rfl fun _ => by kernel_rfl
def s_scAdd (p_page : List Int) (p_signals : List Int) (p_times : Int) : Option ((List Int)) :=
 (loopE (fun (st2 : (List Int) × Int) => (
 bif (decide (st2.2 < (p_signals.length : Int))) then
 (idx p_signals st2.2).bind fun e3 =>
 (idx p_page st2.2).bind fun e4 =>
 bif decide (List.length st2.1 + List.length [(w64 ((Int.tmod (w64 ((Int.tmod (w64 ((w64 (e3 - 1)) + (w64 (p_times * e4)))) 60) + 60)) 60) + 1))] ≤ lim) then
 some (.inl ((st2.1 ++ [(w64 ((Int.tmod (w64 ((Int.tmod (w64 ((w64 (e3 - 1)) + (w64 (p_times * e4)))) 60) + 60)) 60) + 1))]), (w64 (st2.2 + 1))))
 else
 none
 else
 some (.inr st2.1) : Option (((List Int) × Int) ⊕ ((List Int))))) ([], 0)).bind fun o5 =>
 some o5
def C238 : FnSpec := { ps := [.val (.slice (.int .i64)), .val (.slice (.int .i64)), .val (.int .i64)], rs := [.own (.slice (.int .i64))], fn := fun x => s_scAdd x.1 x.2.1 x.2.2 }
def E238 : Env := { T := [(3, (.int .i64)), (26, (.slice (.int .i64)))], G := [], ro := [], loops := [(3, { keep := [0, 2, 10, 11], live := [.own 7 [] 200007 (.int .i64) true, .tv 12 (.int .i64)], outs := [(.exit 0, [.own 7 [] 200007 (.int .i64) true])] })], joins := [] }
theorem S238 : Sound Tryz.prog 238 C238 := fun_sound (E := E238) ⟨good_T (by kernel_rfl), good_nil, mixedOk, ins_nil⟩ Tryz.func238 rfl fun _ => by kernel_rfl
def s_kyMix (p_keys : List Int) : Option (Int) :=
 (s_l1Own p_keys).bind fun r1 =>
 bif decide (List.length r1 + List.length [3, 7] ≤ lim) then
 (loopE (fun (st3 : Int × (List Int) × Int) => (
 bif (decide (st3.2.2 < ((r1 ++ [3, 7]).length : Int))) then
 bif decide (0 ≤ st3.2.2) && decide (st3.2.2 < (st3.2.1.length : Int)) then
 (st3.2.1[(Int.toNat st3.2.2)]?).bind fun e4 =>
 some (.inl ((Int.tmod (w64 ((Int.tmod (w64 ((w64 ((w64 (19 * st3.1)) + e4)) + 23)) 1000003) * (w64 ((w64 (Int.tdiv (Int.tmod (w64 ((w64 ((w64 (19 * st3.1)) + e4)) + 23)) 1000003) 16)) + 11)))) 1000003), st3.2.1, (w64 (st3.2.2 + 1))))
 else
 none
 else
 some (.inr st3.1) : Option ((Int × (List Int) × Int) ⊕ (Int)))) ((w64 (6907 + (p_keys.length : Int))), (r1 ++ [3, 7]), 0)).bind fun o5 =>
 some o5
 else
 none
def C289 : FnSpec := { ps := [.val (.slice (.int .i64))], rs := [.val (.int .i64)], fn := fun x => s_kyMix x }
def E289 : Env := { T := [(3, (.int .i64)), (26, (.slice (.int .i64)))], G := [(50, C50)], ro := [], loops := [(3, { keep := [13], live := [.tv 3 (.int .i64), .own 12 [] 160 (.int .i64) true, .tv 14 (.int .i64)], outs := [(.exit 0, [.tv 3 (.int .i64)])] })], joins := [] }
theorem S289 : Sound Tryz.prog 289 C289 := fun_sound (E := E289) ⟨good_T (by kernel_rfl), (good_cons S50 ⟨_, Tryz.func50, by kernel_rfl, by kernel_rfl⟩ good_nil), mixedOk, ins_nil⟩ Tryz.func289 rfl fun _ => by kernel_rfl
def s_kyPage (p_b : GKeyBook) (p_page : Int) : Option ((List Int)) :=
 (loopE (fun (st2 : (List Int) × Int) => (
 bif (decide (st2.2 < 20)) then
 (s_kyMix [p_b.1, p_page, st2.2]).bind fun r3 =>
 bif decide (List.length st2.1 + List.length [(Int.tmod r3 60)] ≤ lim) then
 some (.inl ((st2.1 ++ [(Int.tmod r3 60)]), (w64 (st2.2 + 1))))
 else
 none
 else
 some (.inr st2.1) : Option (((List Int) × Int) ⊕ ((List Int))))) ([], 0)).bind fun o4 =>
 some o4
def C239 : FnSpec := { ps := [.val TGKeyBook, .val (.int .i64)], rs := [.own (.slice (.int .i64))], fn := fun x => s_kyPage x.1 x.2 }
def E239 : Env := { T := [(3, (.int .i64)), (26, (.slice (.int .i64))), (67, TGKeyBook)], G := [(289, C289)], ro := [2], loops := [(3, { keep := [1, 2], live := [.own 5 [] 200005 (.int .i64) true, .tv 6 (.int .i64)], outs := [(.exit 0, [.own 5 [] 200005 (.int .i64) true])] })], joins := [] }
theorem S239 : Sound Tryz.prog 239 C239 := fun_sound (E := E239) ⟨good_T (by kernel_rfl), (good_cons S289 ⟨_, Tryz.func289, by kernel_rfl, by kernel_rfl⟩ good_nil), mixedOk, ins_nil⟩ Tryz.func239 rfl fun _ => by kernel_rfl
def s_scAll (p_b : GKeyBook) (p_pages : List Int) (p_signals : List Int) (p_times : Int) : Option ((List Int)) :=
 (loopE (fun (st2 : (List Int) × Int) => (
 bif (decide (st2.2 < (p_pages.length : Int))) then
 (idx p_pages st2.2).bind fun e3 =>
 (s_l1Least (p_signals.length : Int) (w64 ((w64 (st2.2 + 1)) * 20))).bind fun r4 =>
 (s_kyPage p_b e3).bind fun r5 =>
 (sub p_signals (w64 (st2.2 * 20)) r4).bind fun l6 =>
 (s_scAdd r5 l6 p_times).bind fun r7 =>
 bif decide (List.length st2.1 + List.length r7 ≤ lim) then
 some (.inl ((st2.1 ++ r7), (w64 (st2.2 + 1))))
 else
 none
 else
 some (.inr st2.1) : Option (((List Int) × Int) ⊕ ((List Int))))) ([], 0)).bind fun o8 =>
 some o8
def C178 : FnSpec := { ps := [.val TGKeyBook, .val (.slice (.int .i64)), .val (.slice (.int .i64)), .val (.int .i64)], rs := [.own (.slice (.int .i64))], fn := fun x => s_scAll x.1 x.2.1 x.2.2.1 x.2.2.2 }
def E178 : Env := { T := [(3, (.int .i64)), (26, (.slice (.int .i64))), (67, TGKeyBook)], G := [(232, C232), (238, C238), (239, C239)], ro := [4], loops := [(3, { keep := [2, 3, 4, 13, 14], live := [.own 9 [] 200009 (.int .i64) true, .tv 15 (.int .i64)], outs := [(.exit 0, [.own 9 [] 200009 (.int .i64) true])] })], joins := [] }
theorem S178 : Sound Tryz.prog 178 C178 := fun_sound (E := E178) ⟨good_T (by kernel_rfl), (good_cons S232 ⟨_, Tryz.func232, by kernel_rfl, by kernel_rfl⟩ (good_cons S238 ⟨_, Tryz.func238, by kernel_rfl, by kernel_rfl⟩ (good_cons S239 ⟨_, Tryz.func239, by kernel_rfl, by kernel_rfl⟩ good_nil))), mixedOk, ins_nil⟩ Tryz.func178 rfl fun _ => by kernel_rfl
def s_HideMessage (p_b : GKeyBook) (p_signals : List Int) : Option (GKeyBook × GSecret × Bool) :=
 (bif (decide (60 < (p_signals.length : Int))) then
 some true
 else
 (s_scContents p_signals).bind fun r1 =>
 some (!r1)).bind fun c2 =>
 bif c2 then
 some ((0, 0, [], ()), ([], [], ()), false)
 else
 (s_UseForLength p_b (p_signals.length : Int)).bind fun r3 =>
 bif (!r3.2.2) then
 some ((0, 0, [], ()), ([], [], ()), false)
 else
 (s_scAll p_b r3.2.1 p_signals 1).bind fun r4 =>
 some (r3.1, (r3.2.1, r4, ()), true)
def C134 : FnSpec := { ps := [.val TGKeyBook, .val (.slice (.int .i64))], rs := [.own TGKeyBook, .own TGSecret, .val .bool], fn := fun x => s_HideMessage x.1 x.2 }
def E134 : Env := { T := [(26, (.slice (.int .i64))), (67, TGKeyBook), (165, TGSecret)], G := [(176, C176), (177, C177), (178, C178)], ro := [2], loops := [], joins := [], hoist := [(6, [1])], astore := [(4, 64)] }
theorem S134 : Sound Tryz.prog 134 C134 := fun_sound (E := E134) ⟨good_T (by kernel_rfl), (good_cons S176 ⟨_, Tryz.func176, by kernel_rfl, by kernel_rfl⟩ (good_cons S177 ⟨_, Tryz.func177, by kernel_rfl, by kernel_rfl⟩ (good_cons S178 ⟨_, Tryz.func178, by kernel_rfl, by kernel_rfl⟩ good_nil))), mixedOk, ins_nil⟩ Tryz.func134 rfl fun _ => by kernel_rfl
def s_sgLine (p_l : List Int) : Option (Bytes) :=
 (loopE (fun (st2 : Bytes × Int) => (
 bif (decide (st2.2 < (p_l.length : Int))) then
 (idx p_l st2.2).bind fun e3 =>
 bif (decide (0 < st2.2)) then
 bif decide (List.length st2.1 + List.length ([32] : Bytes) ≤ lim) then
 (s_l1Num e3).bind fun r4 =>
 bif decide (List.length (st2.1 ++ ([32] : Bytes)) + List.length r4 ≤ lim) then
 some (.inl (((st2.1 ++ ([32] : Bytes)) ++ r4), (w64 (st2.2 + 1))))
 else
 none
 else
 none
 else
 (s_l1Num e3).bind fun r5 =>
 bif decide (List.length st2.1 + List.length r5 ≤ lim) then
 some (.inl ((st2.1 ++ r5), (w64 (st2.2 + 1))))
 else
 none
 else
 some (.inr st2.1) : Option ((Bytes × Int) ⊕ (Bytes)))) ([], 0)).bind fun o6 =>
 some o6
def C179 : FnSpec := { ps := [.val (.slice (.int .i64))], rs := [.val .str], fn := fun x => s_sgLine x }
def E179 : Env := { T := [(3, (.int .i64)), (26, (.slice (.int .i64)))], G := [(82, C82)], ro := [], loops := [(3, { keep := [6, 7], live := [.tv 3 .str, .tv 8 (.int .i64)], outs := [(.exit 0, [.tv 3 .str])] })], joins := [] }
theorem S179 : Sound Tryz.prog 179 C179 := fun_sound (E := E179) ⟨good_T (by kernel_rfl), (good_cons S82 ⟨_, Tryz.func82, by kernel_rfl, by kernel_rfl⟩ good_nil), mixedOk, ins_nil⟩ Tryz.func179 rfl fun _ => by kernel_rfl
def s_scText (p_x : GSecret) : Option (Bytes) :=
 (loopE (fun (st2 : Bytes × Int) => (
 bif (decide (st2.2 < (p_x.1.length : Int))) then
 (idx p_x.1 st2.2).bind fun e3 =>
 bif (decide (0 < st2.2)) then
 bif decide (List.length st2.1 + List.length ([43] : Bytes) ≤ lim) then
 (s_l1Num e3).bind fun r4 =>
 bif decide (List.length (st2.1 ++ ([43] : Bytes)) + List.length r4 ≤ lim) then
 some (.inl (((st2.1 ++ ([43] : Bytes)) ++ r4), (w64 (st2.2 + 1))))
 else
 none
 else
 none
 else
 (s_l1Num e3).bind fun r5 =>
 bif decide (List.length st2.1 + List.length r5 ≤ lim) then
 some (.inl ((st2.1 ++ r5), (w64 (st2.2 + 1))))
 else
 none
 else
 some (.inr st2.1) : Option ((Bytes × Int) ⊕ (Bytes)))) ([], 0)).bind fun o6 =>
 bif decide (List.length o6 + List.length ([58] : Bytes) ≤ lim) then
 (s_sgLine p_x.2.1).bind fun r7 =>
 bif decide (List.length (o6 ++ ([58] : Bytes)) + List.length r7 ≤ lim) then
 some ((o6 ++ ([58] : Bytes)) ++ r7)
 else
 none
 else
 none
def C135 : FnSpec := { ps := [.val TGSecret], rs := [.val .str], fn := fun x => s_scText x }
def E135 : Env := { T := [(3, (.int .i64)), (26, (.slice (.int .i64))), (165, TGSecret)], G := [(82, C82), (179, C179)], ro := [1], loops := [(3, { keep := [1, 7, 8], live := [.tv 3 .str, .tv 9 (.int .i64)], outs := [(.exit 0, [.tv 3 .str])] })], joins := [] }
theorem S135 : Sound Tryz.prog 135 C135 := fun_sound (E := E135) ⟨good_T (by kernel_rfl), (good_cons S82 ⟨_, Tryz.func82, by kernel_rfl, by kernel_rfl⟩ (good_cons S179 ⟨_, Tryz.func179, by kernel_rfl, by kernel_rfl⟩ good_nil)), mixedOk, ins_nil⟩ Tryz.func135 rfl fun _ => by kernel_rfl
def s_csState_hide (p_x : GcsState) (p_n : List Int) : Option (GcsState × Bytes) :=
 (s_HideMessage p_x.2.2.2.1 p_n).bind fun r1 =>
 bif (!r1.2.2) then
 some (p_x, ([110, 111] : Bytes))
 else
 (s_scText r1.2.1).bind fun r2 =>
 some ((p_x.1, p_x.2.1, p_x.2.2.1, r1.1, p_x.2.2.2.2), r2)
def C103 : FnSpec := { ps := [.obox TGcsState, .val (.slice (.int .i64))], rs := [.val .str], fn := fun x => s_csState_hide x.1 x.2 }
def E103 : Env := { T := [(67, TGKeyBook), (83, TGcsState), (165, TGSecret)], G := [(134, C134), (135, C135)], ro := [], loops := [], joins := [] }
theorem S103 : Sound Tryz.prog 103 C103 := fun_sound_obox (E := E103) ⟨good_T (by kernel_rfl), (good_cons S134 ⟨_, Tryz.func134, by kernel_rfl, by kernel_rfl⟩ (good_cons S135 ⟨_, Tryz.func135, by kernel_rfl, by kernel_rfl⟩ good_nil)), mixedOk, ins_nil⟩ Tryz.func103 rfl rfl fun _ => by kernel_rfl
def s_dkTicket (p_x : GTicket) : Option (Bool) :=
 (s_l1In p_x.1 1 999).bind fun r1 =>
 (bif r1 then
 (s_l1In p_x.2.1 1 9).bind fun r2 =>
 some r2
 else
 some false).bind fun c3 =>
 (bif c3 then
 (s_l1Rising p_x.2.2.1 0 (w64 (p_x.2.1 - 1))).bind fun r4 =>
 some r4
 else
 some false).bind fun c5 =>
 (bif c5 then
 (s_l1In p_x.2.2.2.1 0 2).bind fun r6 =>
 some r6
 else
 some false).bind fun c7 =>
 (bif c7 then
 some ((decide ((p_x.2.2.1.length : Int) = p_x.2.1)) == (decide (p_x.2.2.2.1 = 1)))
 else
 some false).bind fun c8 =>
 some c8
def C243 : FnSpec := { ps := [.val TGTicket], rs := [.val .bool], fn := fun x => s_dkTicket x }
def E243 : Env := { T := [(3, (.int .i64)), (4, .bool), (26, (.slice (.int .i64))), (88, TGTicket)], G := [(120, C120), (287, C287)], ro := [1], loops := [], joins := [] }
theorem S243 : Sound Tryz.prog 243 C243 := fun_sound (E := E243) ⟨good_T (by kernel_rfl), (good_cons S120 ⟨_, Tryz.func120, by kernel_rfl, by kernel_rfl⟩ (good_cons S287 ⟨_, Tryz.func287, by kernel_rfl, by kernel_rfl⟩ good_nil)), mixedOk, ins_nil⟩ Tryz.func243 rfl fun _ => by kernel_rfl
def s_dkGood (p_l : List GTicket) : Option (Bool) :=
 (loopE (fun (st2 : Int) => (
 bif (decide (st2 < (p_l.length : Int))) then
 (idx p_l st2).bind fun e3 =>
 (s_dkTicket e3).bind fun r4 =>
 (bif (!r4) then
 some true
 else
 (bif (decide (0 < st2)) then
 (idx p_l (w64 (st2 - 1))).bind fun e5 =>
 some (decide (e3.1 ≤ e5.1))
 else
 some false).bind fun c6 =>
 some c6).bind fun c7 =>
 bif c7 then
 some (.inr (.inr false))
 else
 some (.inl (w64 (st2 + 1)))
 else
 some (.inr (.inl ())) : Option ((Int) ⊕ (Unit ⊕ Bool)))) 0).bind fun o8 =>
 match o8 with
 | .inl _ =>
  some (decide ((p_l.length : Int) ≤ 20))
 | .inr y10 =>
  some y10
def C182 : FnSpec := { ps := [.val (.slice TGTicket)], rs := [.val .bool], fn := fun x => s_dkGood x }
def E182 : Env := { T := [(3, (.int .i64)), (31, (.slice TGTicket)), (88, TGTicket)], G := [(243, C243)], ro := [], loops := [(2, { keep := [0, 5, 6], live := [.tv 7 (.int .i64)], outs := [(.exit 0, []), (.ret, [.tv 2 .bool])] })], joins := [] }
theorem S182 : Sound Tryz.prog 182 C182 := fun_sound (E := E182) ⟨good_T (by kernel_rfl), (good_cons S243 ⟨_, Tryz.func243, by kernel_rfl, by kernel_rfl⟩ good_nil), mixedOk, ins_nil⟩ Tryz.func182 rfl fun _ => by kernel_rfl
def s_dkOwn (p_l : List GTicket) : Option ((List GTicket)) :=
 (loopE (fun (st2 : (List GTicket) × Int) => (
 bif (decide (st2.2 < (p_l.length : Int))) then
 (idx p_l st2.2).bind fun e3 =>
 (s_l1Own e3.2.2.1).bind fun r4 =>
 bif decide (List.length st2.1 + List.length [(e3.1, e3.2.1, r4, e3.2.2.2)] ≤ lim) then
 some (.inl ((st2.1 ++ [(e3.1, e3.2.1, r4, e3.2.2.2)]), (w64 (st2.2 + 1))))
 else
 none
 else
 some (.inr st2.1) : Option (((List GTicket) × Int) ⊕ ((List GTicket))))) ([], 0)).bind fun o5 =>
 some o5
def C242 : FnSpec := { ps := [.val (.slice TGTicket)], rs := [.own (.slice TGTicket)], fn := fun x => s_dkOwn x }
def E242 : Env := { T := [(26, (.slice (.int .i64))), (31, (.slice TGTicket)), (88, TGTicket)], G := [(50, C50)], ro := [], loops := [(3, { keep := [6, 7], live := [.own 3 [] 200003 TGTicket true, .tv 8 (.int .i64)], outs := [(.exit 0, [.own 3 [] 200003 TGTicket true])] })], joins := [], mv := true }
theorem S242 : Sound Tryz.prog 242 C242 := fun_sound (E := E242) ⟨good_T (by kernel_rfl), (good_cons S50 ⟨_, Tryz.func50, by kernel_rfl, by kernel_rfl⟩ good_nil), mixedOk, ins_nil⟩ Tryz.func242 rfl fun _ => by kernel_rfl
def s_dkAccept (p_l : List GTicket) (p_message : Int) (p_parts : Int) : Option ((List GTicket) × Bool) :=
 (loopE (fun (st2 : Int) => (
 (bif (decide (st2 < (p_l.length : Int))) then
 (idx p_l st2).bind fun e3 =>
 some (decide (e3.1 < p_message))
 else
 some false).bind fun c4 =>
 bif c4 then
 some (.inl (w64 (st2 + 1)))
 else
 some (.inr st2) : Option ((Int) ⊕ (Int)))) 0).bind fun o5 =>
 (sub p_l 0 o5).bind fun l6 =>
 (s_dkOwn l6).bind fun r7 =>
 (sub p_l o5 (p_l.length : Int)).bind fun l8 =>
 bif decide (List.length r7 + List.length ([(p_message, p_parts, [], 0, ())] : List GTicket) ≤ lim) then
 (s_dkOwn l8).bind fun r9 =>
 bif decide (List.length (r7 ++ ([(p_message, p_parts, [], 0, ())] : List GTicket)) + List.length r9 ≤ lim) then
 (s_dkGood ((r7 ++ ([(p_message, p_parts, [], 0, ())] : List GTicket)) ++ r9)).bind fun r10 =>
 bif (!r10) then
 some ([], false)
 else
 some (((r7 ++ ([(p_message, p_parts, [], 0, ())] : List GTicket)) ++ r9), true)
 else
 none
 else
 none
def C240 : FnSpec := { ps := [.val (.slice TGTicket), .val (.int .i64), .val (.int .i64)], rs := [.own (.slice TGTicket), .val .bool], fn := fun x => s_dkAccept x.1 x.2.1 x.2.2 }
def E240 : Env := { T := [(3, (.int .i64)), (31, (.slice TGTicket)), (88, TGTicket)], G := [(182, C182), (242, C242)], ro := [], loops := [(2, { keep := [0, 1, 2], live := [.tv 8 (.int .i64)], outs := [(.exit 0, [.tv 8 (.int .i64)])] })], joins := [], mv := true }
theorem S240 : Sound Tryz.prog 240 C240 := fun_sound (E := E240) ⟨good_T (by kernel_rfl), (good_cons S182 ⟨_, Tryz.func182, by kernel_rfl, by kernel_rfl⟩ (good_cons S242 ⟨_, Tryz.func242, by kernel_rfl, by kernel_rfl⟩ good_nil)), mixedOk, ins_nil⟩ Tryz.func240 rfl fun _ => by kernel_rfl
def s_dkFind (p_l : List GTicket) (p_message : Int) : Option (Int) :=
 (loopE (fun (st2 : Int) => (
 bif (decide (st2 < (p_l.length : Int))) then
 (idx p_l st2).bind fun e3 =>
 bif (decide (e3.1 = p_message)) then
 some (.inr (.inr st2))
 else
 some (.inl (w64 (st2 + 1)))
 else
 some (.inr (.inl ())) : Option ((Int) ⊕ (Unit ⊕ Int)))) 0).bind fun o4 =>
 match o4 with
 | .inl _ =>
  some (-1)
 | .inr y6 =>
  some y6
def C181 : FnSpec := { ps := [.val (.slice TGTicket), .val (.int .i64)], rs := [.val (.int .i64)], fn := fun x => s_dkFind x.1 x.2 }
def E181 : Env := { T := [(3, (.int .i64)), (31, (.slice TGTicket)), (88, TGTicket)], G := [], ro := [], loops := [(2, { keep := [1, 7, 8], live := [.tv 9 (.int .i64)], outs := [(.exit 0, []), (.ret, [.tv 4 (.int .i64)])] })], joins := [] }
theorem S181 : Sound Tryz.prog 181 C181 := fun_sound (E := E181) ⟨good_T (by kernel_rfl), good_nil, mixedOk, ins_nil⟩ Tryz.func181 rfl fun _ => by kernel_rfl
def s_dkOpen (p_l : List GTicket) (p_message : Int) : Option (Int) :=
 (s_dkFind p_l p_message).bind fun r1 =>
 (bif (decide (0 ≤ r1)) then
 (idx p_l r1).bind fun e2 =>
 some (!decide (e2.2.2.2.1 = 0))
 else
 some false).bind fun c3 =>
 bif c3 then
 some (-1)
 else
 some r1
def C241 : FnSpec := { ps := [.val (.slice TGTicket), .val (.int .i64)], rs := [.val (.int .i64)], fn := fun x => s_dkOpen x.1 x.2 }
def E241 : Env := { T := [(3, (.int .i64)), (31, (.slice TGTicket)), (88, TGTicket)], G := [(181, C181)], ro := [], loops := [], joins := [] }
theorem S241 : Sound Tryz.prog 241 C241 := fun_sound (E := E241) ⟨good_T (by kernel_rfl), (good_cons S181 ⟨_, Tryz.func181, by kernel_rfl, by kernel_rfl⟩ good_nil), mixedOk, ins_nil⟩ Tryz.func241 rfl fun _ => by kernel_rfl
def s_dkStep (p_l : List GTicket) (p_m : GTower) : Option ((List GTicket) × Bool) :=
 bif (decide (p_m.1 = 1)) then
 (s_dkAccept p_l p_m.2.1 p_m.2.2.1).bind fun r1 =>
 some (r1.1, r1.2)
 else
 (s_dkOpen p_l p_m.2.1).bind fun r2 =>
 bif (decide (r2 < 0)) then
 some ([], false)
 else
 (s_dkOwn p_l).bind fun r3 =>
 bif decide (0 ≤ r2) && decide (r2 < (r3.length : Int)) then
 bif (decide (p_m.1 = 3)) then
 (r3[(Int.toNat r2)]?).bind fun e4 =>
 some ((r3.set (Int.toNat r2) (e4.1, e4.2.1, e4.2.2.1, 2, ())), true)
 else
 (bif (decide (p_m.1 = 2)) then
 (r3[(Int.toNat r2)]?).bind fun e5 =>
 (s_l1In p_m.2.2.1 0 (w64 (e5.2.1 - 1))).bind fun r6 =>
 some r6
 else
 some false).bind fun c7 =>
 bif c7 then
 (r3[(Int.toNat r2)]?).bind fun e8 =>
 (putSame e8.2.2.1 p_m.2.2.1).bind fun c9 =>
 bif c9 then
 bif Nat.beq (Int.toNat r2) (Int.toNat r2) then
 (r3[(Int.toNat r2)]?).bind fun e10 =>
 (r3[(Int.toNat r2)]?).bind fun e11 =>
 bif (decide ((e10.2.2.1.length : Int) = e11.2.1)) then
 (r3[(Int.toNat r2)]?).bind fun e12 =>
 some ((r3.set (Int.toNat r2) (e12.1, e12.2.1, e12.2.2.1, 1, ())), true)
 else
 some (r3, true)
 else
 none
 else
 (putNew e8.2.2.1 p_m.2.2.1).bind fun r13 =>
 (r3[(Int.toNat r2)]?).bind fun e14 =>
 ((r3.set (Int.toNat r2) (e14.1, e14.2.1, r13, e14.2.2.2))[(Int.toNat r2)]?).bind fun e15 =>
 ((r3.set (Int.toNat r2) (e14.1, e14.2.1, r13, e14.2.2.2))[(Int.toNat r2)]?).bind fun e16 =>
 bif (decide ((e15.2.2.1.length : Int) = e16.2.1)) then
 ((r3.set (Int.toNat r2) (e14.1, e14.2.1, r13, e14.2.2.2))[(Int.toNat r2)]?).bind fun e17 =>
 some (((r3.set (Int.toNat r2) (e14.1, e14.2.1, r13, e14.2.2.2)).set (Int.toNat r2) (e17.1, e17.2.1, e17.2.2.1, 1, ())), true)
 else
 some ((r3.set (Int.toNat r2) (e14.1, e14.2.1, r13, e14.2.2.2)), true)
 else
 some ([], false)
 else
 none
def C180 : FnSpec := { ps := [.val (.slice TGTicket), .val TGTower], rs := [.own (.slice TGTicket), .val .bool], fn := fun x => s_dkStep x.1 x.2 }
def E180 : Env := { T := [(3, (.int .i64)), (26, (.slice (.int .i64))), (31, (.slice TGTicket)), (88, TGTicket), (192, TGTower)], G := [(120, C120), (240, C240), (241, C241), (242, C242)], ro := [3], loops := [], joins := [], mv := true, hoist := [(12, [0])], sel := [(51, PutS)] }
theorem S180 : Sound Tryz.prog 180 C180 := fun_sound (E := E180) ⟨good_T (by kernel_rfl), (good_cons S120 ⟨_, Tryz.func120, by kernel_rfl, by kernel_rfl⟩ (good_cons S240 ⟨_, Tryz.func240, by kernel_rfl, by kernel_rfl⟩ (good_cons S241 ⟨_, Tryz.func241, by kernel_rfl, by kernel_rfl⟩ (good_cons S242 ⟨_, Tryz.func242, by kernel_rfl, by kernel_rfl⟩ good_nil)))), mixedOk, (sel_cons sel_PutS ⟨_, Tryz.func51, by kernel_rfl, by kernel_rfl⟩ ins_nil)⟩ Tryz.func180 rfl fun _ => by kernel_rfl
def s_csState_desk (p_x : GcsState) (p_kind : Int) (p_message : Int) (p_number : Int) : Option (GcsState × Bytes) :=
 (s_dkStep p_x.2.2.2.2.1 (p_kind, p_message, p_number, ())).bind fun r1 =>
 bif r1.2 then
 (s_csDone r1.2).bind fun r2 =>
 some ((p_x.1, p_x.2.1, p_x.2.2.1, p_x.2.2.2.1, r1.1, p_x.2.2.2.2.2), r2)
 else
 (s_csDone r1.2).bind fun r3 =>
 some (p_x, r3)
def C136 : FnSpec := { ps := [.obox TGcsState, .val (.int .i64), .val (.int .i64), .val (.int .i64)], rs := [.val .str], fn := fun x => s_csState_desk x.1 x.2.1 x.2.2.1 x.2.2.2 }
def E136 : Env := { T := [(31, (.slice TGTicket)), (83, TGcsState), (192, TGTower)], G := [(124, C124), (180, C180)], ro := [], loops := [], joins := [] }
theorem S136 : Sound Tryz.prog 136 C136 := fun_sound_obox (E := E136) ⟨good_T (by kernel_rfl), (good_cons S124 ⟨_, Tryz.func124, by kernel_rfl, by kernel_rfl⟩ (good_cons S180 ⟨_, Tryz.func180, by kernel_rfl, by kernel_rfl⟩ good_nil)), mixedOk, ins_nil⟩ Tryz.func136 rfl rfl fun _ => by kernel_rfl
def s_ReceiptText (p_l : List GTicket) (p_message : Int) : Option (Bytes × Bool) :=
 (s_dkFind p_l p_message).bind fun r1 =>
 (s_dkGood p_l).bind fun r2 =>
 (bif (!r2) then
 some true
 else
 some (decide (r1 < 0))).bind fun c3 =>
 bif c3 then
 some ([], false)
 else
 (idx p_l r1).bind fun e4 =>
 (s_l1Num (e4.2.2.1.length : Int)).bind fun r5 =>
 bif decide (List.length ([32] : Bytes) + List.length r5 ≤ lim) then
 bif decide (List.length (([32] : Bytes) ++ r5) + List.length ([47] : Bytes) ≤ lim) then
 (s_l1Num e4.2.1).bind fun r6 =>
 bif decide (List.length ((([32] : Bytes) ++ r5) ++ ([47] : Bytes)) + List.length r6 ≤ lim) then
 (s_l1Num p_message).bind fun r7 =>
 bif decide (List.length ([32, 111, 112, 101, 110] : Bytes) + List.length (((([32] : Bytes) ++ r5) ++ ([47] : Bytes)) ++ r6) ≤ lim) then
 bif decide (List.length ([32, 102, 97, 105, 108, 101, 100] : Bytes) + List.length (((([32] : Bytes) ++ r5) ++ ([47] : Bytes)) ++ r6) ≤ lim) then
 bif decide (0 ≤ e4.2.2.2.1) && decide (e4.2.2.2.1 < ([(([32, 111, 112, 101, 110] : Bytes) ++ (((([32] : Bytes) ++ r5) ++ ([47] : Bytes)) ++ r6)), ([32, 97, 114, 114, 105, 118, 101, 100] : Bytes), (([32, 102, 97, 105, 108, 101, 100] : Bytes) ++ (((([32] : Bytes) ++ r5) ++ ([47] : Bytes)) ++ r6))].length : Int)) then
 ([(([32, 111, 112, 101, 110] : Bytes) ++ (((([32] : Bytes) ++ r5) ++ ([47] : Bytes)) ++ r6)), ([32, 97, 114, 114, 105, 118, 101, 100] : Bytes), (([32, 102, 97, 105, 108, 101, 100] : Bytes) ++ (((([32] : Bytes) ++ r5) ++ ([47] : Bytes)) ++ r6))][(Int.toNat e4.2.2.2.1)]?).bind fun e8 =>
 bif decide (List.length r7 + List.length e8 ≤ lim) then
 some ((r7 ++ e8), true)
 else
 none
 else
 none
 else
 none
 else
 none
 else
 none
 else
 none
 else
 none
def C137 : FnSpec := { ps := [.val (.slice TGTicket), .val (.int .i64)], rs := [.val .str, .val .bool], fn := fun x => s_ReceiptText x.1 x.2 }
def E137 : Env := { T := [(3, (.int .i64)), (9, .str), (26, (.slice (.int .i64))), (31, (.slice TGTicket)), (69, (.slice .str)), (88, TGTicket)], G := [(82, C82), (181, C181), (182, C182)], ro := [], loops := [], joins := [] }
theorem S137 : Sound Tryz.prog 137 C137 := fun_sound (E := E137) ⟨good_T (by kernel_rfl), (good_cons S82 ⟨_, Tryz.func82, by kernel_rfl, by kernel_rfl⟩ (good_cons S181 ⟨_, Tryz.func181, by kernel_rfl, by kernel_rfl⟩ (good_cons S182 ⟨_, Tryz.func182, by kernel_rfl, by kernel_rfl⟩ good_nil))), mixedOk, ins_nil⟩ Tryz.func137 rfl fun _ => by kernel_rfl
def s_shOn (p_l : List GTower) (p_hour : Int) : Option ((List Int)) :=
 (loopE (fun (st2 : (List Int) × Int) => (
 bif (decide (st2.2 < (p_l.length : Int))) then
 (idx p_l st2.2).bind fun e3 =>
 (s_l1In p_hour e3.2.1 (w64 (e3.2.2.1 - 1))).bind fun r4 =>
 bif r4 then
 (putSame st2.1 e3.1).bind fun c5 =>
 bif c5 then
 some (.inl (st2.1, (w64 (st2.2 + 1))))
 else
 (putNew st2.1 e3.1).bind fun r6 =>
 some (.inl (r6, (w64 (st2.2 + 1))))
 else
 some (.inl (st2.1, (w64 (st2.2 + 1))))
 else
 some (.inr st2.1) : Option (((List Int) × Int) ⊕ ((List Int))))) ([], 0)).bind fun o7 =>
 some o7
def C184 : FnSpec := { ps := [.val (.slice TGTower), .val (.int .i64)], rs := [.own (.slice (.int .i64))], fn := fun x => s_shOn x.1 x.2 }
def E184 : Env := { T := [(3, (.int .i64)), (68, (.slice TGTower)), (159, TGTower)], G := [(120, C120)], ro := [], loops := [(3, { keep := [1, 8, 9], live := [.own 5 [] 200005 (.int .i64) true, .tv 10 (.int .i64)], outs := [(.exit 0, [.own 5 [] 200005 (.int .i64) true])] })], joins := [], sel := [(51, PutS)] }
theorem S184 : Sound Tryz.prog 184 C184 := fun_sound (E := E184) ⟨good_T (by kernel_rfl), (good_cons S120 ⟨_, Tryz.func120, by kernel_rfl, by kernel_rfl⟩ good_nil), mixedOk, (sel_cons sel_PutS ⟨_, Tryz.func51, by kernel_rfl, by kernel_rfl⟩ ins_nil)⟩ Tryz.func184 rfl fun _ => by kernel_rfl
def s_OnDutyAt (p_l : List GTower) (p_hour : Int) : Option ((List Int) × Bool) :=
 (s_shGood p_l).bind fun r1 =>
 (bif (!r1) then
 some true
 else
 (s_shHour p_hour).bind fun r2 =>
 some (!r2)).bind fun c3 =>
 bif c3 then
 some ([], false)
 else
 (s_shOn p_l p_hour).bind fun r4 =>
 some (r4, true)
def C138 : FnSpec := { ps := [.val (.slice TGTower), .val (.int .i64)], rs := [.own (.slice (.int .i64)), .val .bool], fn := fun x => s_OnDutyAt x.1 x.2 }
def E138 : Env := { T := [], G := [(173, C173), (183, C183), (184, C184)], ro := [], loops := [], joins := [] }
theorem S138 : Sound Tryz.prog 138 C138 := fun_sound (E := E138) ⟨good_T (by kernel_rfl), (good_cons S173 ⟨_, Tryz.func173, by kernel_rfl, by kernel_rfl⟩ (good_cons S183 ⟨_, Tryz.func183, by kernel_rfl, by kernel_rfl⟩ (good_cons S184 ⟨_, Tryz.func184, by kernel_rfl, by kernel_rfl⟩ good_nil))), mixedOk, ins_nil⟩ Tryz.func138 rfl fun _ => by kernel_rfl
def s_fgTime (p_t : Int) : Option (Bool) :=
 (s_l1In p_t 0 10000).bind fun r1 =>
 some r1
def C290 : FnSpec := { ps := [.val (.int .i64)], rs := [.val .bool], fn := fun x => s_fgTime x }
def E290 : Env := { T := [], G := [(120, C120)], ro := [], loops := [], joins := [] }
theorem S290 : Sound Tryz.prog 290 C290 := fun_sound (E := E290) ⟨good_T (by kernel_rfl), (good_cons S120 ⟨_, Tryz.func120, by kernel_rfl, by kernel_rfl⟩ good_nil), mixedOk, ins_nil⟩ Tryz.func290 rfl fun _ => by kernel_rfl
def s_roGood (p_n : GNet) (p_l : List GTower) (p_t : Int) : Option (Bool) :=
 (s_neGood p_n).bind fun r1 =>
 (bif r1 then
 (s_fgGood p_n p_l).bind fun r2 =>
 some r2
 else
 some false).bind fun c3 =>
 (bif c3 then
 (s_fgTime p_t).bind fun r4 =>
 some r4
 else
 some false).bind fun c5 =>
 some c5
def C244 : FnSpec := { ps := [.val TGNet, .val (.slice TGTower), .val (.int .i64)], rs := [.val .bool], fn := fun x => s_roGood x.1 x.2.1 x.2.2 }
def E244 : Env := { T := [(46, TGNet)], G := [(126, C126), (169, C169), (290, C290)], ro := [3], loops := [], joins := [] }
theorem S244 : Sound Tryz.prog 244 C244 := fun_sound (E := E244) ⟨good_T (by kernel_rfl), (good_cons S126 ⟨_, Tryz.func126, by kernel_rfl, by kernel_rfl⟩ (good_cons S169 ⟨_, Tryz.func169, by kernel_rfl, by kernel_rfl⟩ (good_cons S290 ⟨_, Tryz.func290, by kernel_rfl, by kernel_rfl⟩ good_nil))), mixedOk, ins_nil⟩ Tryz.func244 rfl fun _ => by kernel_rfl
def s_roTower (p_n : GNet) (p_i : Int) : Option (Bool) :=
 (s_l1In p_i 0 (w64 ((p_n.1.length : Int) - 1))).bind fun r1 =>
 some r1
def C245 : FnSpec := { ps := [.val TGNet, .val (.int .i64)], rs := [.val .bool], fn := fun x => s_roTower x.1 x.2 }
def E245 : Env := { T := [(43, (.slice TGTower)), (46, TGNet)], G := [(120, C120)], ro := [2], loops := [], joins := [] }
theorem S245 : Sound Tryz.prog 245 C245 := fun_sound (E := E245) ⟨good_T (by kernel_rfl), (good_cons S120 ⟨_, Tryz.func120, by kernel_rfl, by kernel_rfl⟩ good_nil), mixedOk, ins_nil⟩ Tryz.func245 rfl fun _ => by kernel_rfl
def s_roAsked (p_n : GNet) (p_l : List GTower) (p_a : Int) (p_b : Int) (p_t : Int) : Option (Bool) :=
 (s_roGood p_n p_l p_t).bind fun r1 =>
 (bif r1 then
 (s_roTower p_n p_a).bind fun r2 =>
 some r2
 else
 some false).bind fun c3 =>
 (bif c3 then
 (s_roTower p_n p_b).bind fun r4 =>
 some r4
 else
 some false).bind fun c5 =>
 some c5
def C185 : FnSpec := { ps := [.val TGNet, .val (.slice TGTower), .val (.int .i64), .val (.int .i64), .val (.int .i64)], rs := [.val .bool], fn := fun x => s_roAsked x.1 x.2.1 x.2.2.1 x.2.2.2.1 x.2.2.2.2 }
def E185 : Env := { T := [(46, TGNet)], G := [(244, C244), (245, C245)], ro := [5], loops := [], joins := [] }
theorem S185 : Sound Tryz.prog 185 C185 := fun_sound (E := E185) ⟨good_T (by kernel_rfl), (good_cons S244 ⟨_, Tryz.func244, by kernel_rfl, by kernel_rfl⟩ (good_cons S245 ⟨_, Tryz.func245, by kernel_rfl, by kernel_rfl⟩ good_nil)), mixedOk, ins_nil⟩ Tryz.func185 rfl fun _ => by kernel_rfl
def s_roOther (p_x : GTower) (p_i : Int) : Option (Int) :=
 bif (decide (p_i = p_x.1)) then
 some p_x.2.1
 else
 bif (decide (p_i = p_x.2.1)) then
 some p_x.1
 else
 some (-1)
def C246 : FnSpec := { ps := [.val TGTower, .val (.int .i64)], rs := [.val (.int .i64)], fn := fun x => s_roOther x.1 x.2 }
def E246 : Env := { T := [(3, (.int .i64)), (106, TGTower)], G := [], ro := [2], loops := [], joins := [] }
theorem S246 : Sound Tryz.prog 246 C246 := fun_sound (E := E246) ⟨good_T (by kernel_rfl), good_nil, mixedOk, ins_nil⟩ Tryz.func246 rfl fun _ => by kernel_rfl
def s_fgStart (p_l : List GTower) (p_link : Int) (p_t : Int) (p_seconds : Int) : Option (Int) :=
 (loopE (fun (st2 : Int × Int) => (
 bif (decide (st2.2 < (p_l.length : Int))) then
 (idx p_l st2.2).bind fun e3 =>
 (bif (decide (e3.1 = p_link)) then
 some (decide (st2.1 < e3.2.2.1))
 else
 some false).bind fun c4 =>
 (bif c4 then
 some (decide (e3.2.1 < (w64 (st2.1 + p_seconds))))
 else
 some false).bind fun c5 =>
 bif c5 then
 some (.inl (e3.2.2.1, (w64 (st2.2 + 1))))
 else
 some (.inl (st2.1, (w64 (st2.2 + 1))))
 else
 some (.inr st2.1) : Option ((Int × Int) ⊕ (Int)))) (p_t, 0)).bind fun o6 =>
 some o6
def C291 : FnSpec := { ps := [.val (.slice TGTower), .val (.int .i64), .val (.int .i64), .val (.int .i64)], rs := [.val (.int .i64)], fn := fun x => s_fgStart x.1 x.2.1 x.2.2.1 x.2.2.2 }
def E291 : Env := { T := [(3, (.int .i64)), (65, (.slice TGTower)), (155, TGTower)], G := [], ro := [], loops := [(2, { keep := [1, 3, 11, 12], live := [.tv 2 (.int .i64), .tv 13 (.int .i64)], outs := [(.exit 0, [.tv 2 (.int .i64)])] })], joins := [] }
theorem S291 : Sound Tryz.prog 291 C291 := fun_sound (E := E291) ⟨good_T (by kernel_rfl), good_nil, mixedOk, ins_nil⟩ Tryz.func291 rfl fun _ => by kernel_rfl
def s_roOver (p_n : GNet) (p_l : List GTower) (p_link : Int) (p_t : Int) : Option (Int) :=
 (idx p_n.2.1 p_link).bind fun e1 =>
 (s_fgStart p_l p_link p_t e1.2.2.1).bind fun r2 =>
 some (w64 (r2 + e1.2.2.1))
def C247 : FnSpec := { ps := [.val TGNet, .val (.slice TGTower), .val (.int .i64), .val (.int .i64)], rs := [.val (.int .i64)], fn := fun x => s_roOver x.1 x.2.1 x.2.2.1 x.2.2.2 }
def E247 : Env := { T := [(3, (.int .i64)), (44, (.slice TGTower)), (46, TGNet), (106, TGTower)], G := [(291, C291)], ro := [4], loops := [], joins := [] }
theorem S247 : Sound Tryz.prog 247 C247 := fun_sound (E := E247) ⟨good_T (by kernel_rfl), (good_cons S291 ⟨_, Tryz.func291, by kernel_rfl, by kernel_rfl⟩ good_nil), mixedOk, ins_nil⟩ Tryz.func247 rfl fun _ => by kernel_rfl
def s_roFirst (p_n : GNet) (p_l : List GTower) (p_a : Int) (p_t : Int) : Option ((List Int)) :=
 (loopE (fun (st2 : (List Int) × Int) => (
 bif (decide (st2.2 < (p_n.1.length : Int))) then
 bif decide (List.length st2.1 + List.length [(-1)] ≤ lim) then
 some (.inl ((st2.1 ++ [(-1)]), (w64 (st2.2 + 1))))
 else
 none
 else
 some (.inr st2.1) : Option (((List Int) × Int) ⊕ ((List Int))))) ([], 0)).bind fun o3 =>
 bif decide (0 ≤ p_a) && decide (p_a < (o3.length : Int)) then
 bif decide (0 ≤ (p_n.1.length : Int)) && decide ((p_n.1.length : Int) ≤ (p_n.1.length : Int)) && decide ((p_n.1.length : Int) ≤ lim) then
 (loopE (fun (st5 : (List Int) × (List Bool)) => (
 (loopE (fun (st7 : (List Int) × (List Bool) × Int × Int) => (
 bif (decide (st7.2.2.2 < (st5.1.length : Int))) then
 bif decide (0 ≤ st7.2.2.2) && decide (st7.2.2.2 < (st7.1.length : Int)) then
 (st7.1[(Int.toNat st7.2.2.2)]?).bind fun e8 =>
 bif decide (0 ≤ st7.2.2.2) && decide (st7.2.2.2 < (st7.2.1.length : Int)) then
 (st7.2.1[(Int.toNat st7.2.2.2)]?).bind fun e9 =>
 (bif (!e9) then
 some (decide (0 ≤ e8))
 else
 some false).bind fun c10 =>
 (bif c10 then
 (bif (decide (st7.2.2.1 < 0)) then
 some true
 else
 bif decide (0 ≤ st7.2.2.1) && decide (st7.2.2.1 < (st7.1.length : Int)) then
 (st7.1[(Int.toNat st7.2.2.1)]?).bind fun e11 =>
 some (decide (e8 < e11))
 else
 none).bind fun c12 =>
 some c12
 else
 some false).bind fun c13 =>
 bif c13 then
 some (.inl (st7.1, st7.2.1, st7.2.2.2, (w64 (st7.2.2.2 + 1))))
 else
 some (.inl (st7.1, st7.2.1, st7.2.2.1, (w64 (st7.2.2.2 + 1))))
 else
 none
 else
 none
 else
 some (.inr (st7.1, st7.2.1, st7.2.2.1)) : Option (((List Int) × (List Bool) × Int × Int) ⊕ (((List Int) × (List Bool) × Int))))) (st5.1, st5.2, (-1), 0)).bind fun o14 =>
 bif (decide (o14.2.2 < 0)) then
 some (.inr o14.1)
 else
 bif decide (0 ≤ o14.2.2) && decide (o14.2.2 < (o14.2.1.length : Int)) then
 (loopE (fun (st16 : (List Int) × (List Bool) × Int) => (
 bif (decide (st16.2.2 < (p_n.2.1.length : Int))) then
 (idx p_n.2.1 st16.2.2).bind fun e17 =>
 (s_roOther e17 o14.2.2).bind fun r18 =>
 bif (decide (r18 < 0)) then
 some (.inl (st16.1, st16.2.1, (w64 (st16.2.2 + 1))))
 else
 bif decide (0 ≤ o14.2.2) && decide (o14.2.2 < (st16.1.length : Int)) then
 (st16.1[(Int.toNat o14.2.2)]?).bind fun e19 =>
 (s_roOver p_n p_l st16.2.2 e19).bind fun r20 =>
 bif decide (0 ≤ r18) && decide (r18 < (st16.1.length : Int)) then
 (st16.1[(Int.toNat r18)]?).bind fun e21 =>
 (bif (decide (e21 < 0)) then
 some true
 else
 bif decide (0 ≤ r18) && decide (r18 < (st16.1.length : Int)) then
 (st16.1[(Int.toNat r18)]?).bind fun e22 =>
 some (decide (r20 < e22))
 else
 none).bind fun c23 =>
 bif c23 then
 bif decide (0 ≤ r18) && decide (r18 < (st16.1.length : Int)) then
 some (.inl ((st16.1.set (Int.toNat r18) r20), st16.2.1, (w64 (st16.2.2 + 1))))
 else
 none
 else
 some (.inl (st16.1, st16.2.1, (w64 (st16.2.2 + 1))))
 else
 none
 else
 none
 else
 some (.inr (st16.1, st16.2.1)) : Option (((List Int) × (List Bool) × Int) ⊕ (((List Int) × (List Bool)))))) (o14.1, (o14.2.1.set (Int.toNat o14.2.2) true), 0)).bind fun o24 =>
 some (.inl (o24.1, o24.2))
 else
 none : Option (((List Int) × (List Bool)) ⊕ ((List Int))))) ((o3.set (Int.toNat p_a) p_t), (List.replicate (Int.toNat (p_n.1.length : Int)) (false : Bool)))).bind fun o25 =>
 some o25
 else
 none
 else
 none
def C186 : FnSpec := { ps := [.val TGNet, .val (.slice TGTower), .val (.int .i64), .val (.int .i64)], rs := [.own (.slice (.int .i64))], fn := fun x => s_roFirst x.1 x.2.1 x.2.2.1 x.2.2.2 }
def E186 : Env := { T := [(3, (.int .i64)), (4, .bool), (26, (.slice (.int .i64))), (43, (.slice TGTower)), (44, (.slice TGTower)), (46, TGNet), (106, TGTower), (227, (.slice .bool))], G := [(246, C246), (247, C247)], ro := [4], loops := [(3, { keep := [1, 2, 3, 4, 20, 48, 49, 52, 53, 54, 55, 56, 57, 58, 59, 60, 61, 98, 99, 100, 101, 102, 103], live := [.own 9 [] 200009 (.int .i64) true, .tv 21 (.int .i64)], outs := [(.exit 0, [.own 9 [] 200009 (.int .i64) true])] }), (8, { keep := [1, 4], live := [.own 9 [] 200009 (.int .i64) true, .own 10 [] 544 .bool true], outs := [(.ret, [.own 8 [] 200009 (.int .i64) true])] }), (10, { keep := [1, 4, 36, 98, 99, 100, 101, 102, 103], live := [.own 9 [35] 200009 (.int .i64) true, .own 10 [] 544 .bool true, .tv 11 (.int .i64), .tv 37 (.int .i64)], outs := [(.exit 4, [.own 9 [] 200009 (.int .i64) true, .own 10 [] 544 .bool true, .tv 11 (.int .i64)])] }), (19, { keep := [1, 4, 11, 48, 49, 52, 53, 54, 55, 56, 57, 58, 59, 60, 61, 72, 73], live := [.own 9 [] 200009 (.int .i64) true, .own 10 [] 544 .bool true, .tv 74 (.int .i64)], outs := [(.exit 6, [.own 9 [] 200009 (.int .i64) true, .own 10 [] 544 .bool true])] })], joins := [] }
theorem S186 : Sound Tryz.prog 186 C186 := fun_sound (E := E186) ⟨good_T (by kernel_rfl), (good_cons S246 ⟨_, Tryz.func246, by kernel_rfl, by kernel_rfl⟩ (good_cons S247 ⟨_, Tryz.func247, by kernel_rfl, by kernel_rfl⟩ good_nil)), mixedOk, ins_nil⟩ Tryz.func186 rfl fun _ => by kernel_rfl
def s_roBefore (p_n : GNet) (p_l : List GTower) (p_first : List Int) (p_b : Int) : Option (Int) :=
 (loopE (fun (st2 : Int × Int) => (
 bif (decide (st2.2 < (p_n.2.1.length : Int))) then
 (idx p_n.2.1 st2.2).bind fun e3 =>
 (s_roOther e3 p_b).bind fun r4 =>
 (bif (decide (0 ≤ r4)) then
 (idx p_first r4).bind fun e5 =>
 some (decide (0 ≤ e5))
 else
 some false).bind fun c6 =>
 (bif c6 then
 (idx p_first r4).bind fun e7 =>
 (s_roOver p_n p_l st2.2 e7).bind fun r8 =>
 (idx p_first p_b).bind fun e9 =>
 some (decide (r8 = e9))
 else
 some false).bind fun c10 =>
 (bif c10 then
 (bif (decide (st2.1 < 0)) then
 some true
 else
 some (decide (r4 < st2.1))).bind fun c11 =>
 some c11
 else
 some false).bind fun c12 =>
 bif c12 then
 some (.inl (r4, (w64 (st2.2 + 1))))
 else
 some (.inl (st2.1, (w64 (st2.2 + 1))))
 else
 some (.inr st2.1) : Option ((Int × Int) ⊕ (Int)))) ((-1), 0)).bind fun o13 =>
 some o13
def C187 : FnSpec := { ps := [.val TGNet, .val (.slice TGTower), .val (.slice (.int .i64)), .val (.int .i64)], rs := [.val (.int .i64)], fn := fun x => s_roBefore x.1 x.2.1 x.2.2.1 x.2.2.2 }
def E187 : Env := { T := [(3, (.int .i64)), (26, (.slice (.int .i64))), (44, (.slice TGTower)), (46, TGNet), (106, TGTower)], G := [(246, C246), (247, C247)], ro := [4], loops := [(3, { keep := [1, 2, 3, 4, 14, 15], live := [.tv 9 (.int .i64), .tv 16 (.int .i64)], outs := [(.exit 0, [.tv 9 (.int .i64)])] })], joins := [] }
theorem S187 : Sound Tryz.prog 187 C187 := fun_sound (E := E187) ⟨good_T (by kernel_rfl), (good_cons S246 ⟨_, Tryz.func246, by kernel_rfl, by kernel_rfl⟩ (good_cons S247 ⟨_, Tryz.func247, by kernel_rfl, by kernel_rfl⟩ good_nil)), mixedOk, ins_nil⟩ Tryz.func187 rfl fun _ => by kernel_rfl
def s_WayThrough (p_n : GNet) (p_l : List GTower) (p_a : Int) (p_b : Int) (p_t : Int) : Option ((List Int) × Bool) :=
 (s_roAsked p_n p_l p_a p_b p_t).bind fun r1 =>
 bif (!r1) then
 some ([], false)
 else
 (s_roFirst p_n p_l p_a p_t).bind fun r2 =>
 bif decide (0 ≤ p_b) && decide (p_b < (r2.length : Int)) then
 (r2[(Int.toNat p_b)]?).bind fun e3 =>
 bif (decide (e3 < 0)) then
 some ([], false)
 else
 (loopE (fun (st5 : Int × (List Int) × (List Int)) => (
 bif (!decide (st5.1 = p_a)) then
 (s_roBefore p_n p_l st5.2.1 st5.1).bind fun r6 =>
 bif decide (List.length [r6] + List.length st5.2.2 ≤ lim) then
 some (.inl (r6, st5.2.1, ([r6] ++ st5.2.2)))
 else
 none
 else
 some (.inr st5.2.2) : Option ((Int × (List Int) × (List Int)) ⊕ ((List Int))))) (p_b, r2, [p_b])).bind fun o7 =>
 some (o7, true)
 else
 none
def C139 : FnSpec := { ps := [.val TGNet, .val (.slice TGTower), .val (.int .i64), .val (.int .i64), .val (.int .i64)], rs := [.own (.slice (.int .i64)), .val .bool], fn := fun x => s_WayThrough x.1 x.2.1 x.2.2.1 x.2.2.2.1 x.2.2.2.2 }
def E139 : Env := { T := [(3, (.int .i64)), (26, (.slice (.int .i64))), (46, TGNet)], G := [(185, C185), (186, C186), (187, C187)], ro := [5], loops := [(7, { keep := [1, 2, 5], live := [.tv 3 (.int .i64), .own 12 [] 400 (.int .i64) true, .own 13 [] 512 (.int .i64) true], outs := [(.exit 0, [.own 13 [] 512 (.int .i64) true])] })], joins := [] }
theorem S139 : Sound Tryz.prog 139 C139 := fun_sound (E := E139) ⟨good_T (by kernel_rfl), (good_cons S185 ⟨_, Tryz.func185, by kernel_rfl, by kernel_rfl⟩ (good_cons S186 ⟨_, Tryz.func186, by kernel_rfl, by kernel_rfl⟩ (good_cons S187 ⟨_, Tryz.func187, by kernel_rfl, by kernel_rfl⟩ good_nil))), mixedOk, ins_nil⟩ Tryz.func139 rfl fun _ => by kernel_rfl
def s_FirstArrival (p_n : GNet) (p_l : List GTower) (p_a : Int) (p_b : Int) (p_t : Int) : Option (Int × Bool) :=
 (s_roAsked p_n p_l p_a p_b p_t).bind fun r1 =>
 bif (!r1) then
 some (0, false)
 else
 (s_roFirst p_n p_l p_a p_t).bind fun r2 =>
 bif decide (0 ≤ p_b) && decide (p_b < (r2.length : Int)) then
 (r2[(Int.toNat p_b)]?).bind fun e3 =>
 (s_l1Most e3 0).bind fun r4 =>
 some (r4, (decide (0 ≤ e3)))
 else
 none
def C140 : FnSpec := { ps := [.val TGNet, .val (.slice TGTower), .val (.int .i64), .val (.int .i64), .val (.int .i64)], rs := [.val (.int .i64), .val .bool], fn := fun x => s_FirstArrival x.1 x.2.1 x.2.2.1 x.2.2.2.1 x.2.2.2.2 }
def E140 : Env := { T := [(3, (.int .i64)), (26, (.slice (.int .i64))), (46, TGNet)], G := [(185, C185), (186, C186), (188, C188)], ro := [5], loops := [], joins := [] }
theorem S140 : Sound Tryz.prog 140 C140 := fun_sound (E := E140) ⟨good_T (by kernel_rfl), (good_cons S185 ⟨_, Tryz.func185, by kernel_rfl, by kernel_rfl⟩ (good_cons S186 ⟨_, Tryz.func186, by kernel_rfl, by kernel_rfl⟩ (good_cons S188 ⟨_, Tryz.func188, by kernel_rfl, by kernel_rfl⟩ good_nil))), mixedOk, ins_nil⟩ Tryz.func140 rfl fun _ => by kernel_rfl
def s_csState_ask (p_x : GcsState) (p_w : Bytes) (p_n : List Int) : Option (GcsState × Bytes) :=
 bif (decide (p_w = w_accept)) then
 (idx p_n 0).bind fun e1 =>
 (idx p_n 1).bind fun e2 =>
 (s_csState_desk p_x 1 e1 e2).bind fun r3 =>
 some (r3.1, r3.2)
 else
 bif (decide (p_w = w_arrived)) then
 (idx p_n 0).bind fun e4 =>
 (idx p_n 1).bind fun e5 =>
 (s_csState_desk p_x 2 e4 e5).bind fun r6 =>
 some (r6.1, r6.2)
 else
 bif (decide (p_w = w_fail)) then
 (idx p_n 0).bind fun e7 =>
 (s_csState_desk p_x 3 e7 0).bind fun r8 =>
 some (r8.1, r8.2)
 else
 bif (decide (p_w = w_where)) then
 (idx p_n 0).bind fun e9 =>
 (s_ReceiptText p_x.2.2.2.2.1 e9).bind fun r10 =>
 (s_csTold r10.1 r10.2).bind fun r11 =>
 some (p_x, r11)
 else
 bif (decide (p_w = w_duty)) then
 (idx p_n 0).bind fun e12 =>
 (s_OnDutyAt p_x.2.2.2.2.2.1 e12).bind fun r13 =>
 (s_csList r13.1 r13.2).bind fun r14 =>
 some (p_x, r14)
 else
 bif (decide (p_w = w_way)) then
 (idx p_n 0).bind fun e15 =>
 (idx p_n 1).bind fun e16 =>
 (idx p_n 2).bind fun e17 =>
 (s_WayThrough p_x.1 p_x.2.1 e15 e16 e17).bind fun r18 =>
 (s_csList r18.1 r18.2).bind fun r19 =>
 some (p_x, r19)
 else
 (idx p_n 0).bind fun e20 =>
 (idx p_n 1).bind fun e21 =>
 (idx p_n 2).bind fun e22 =>
 (s_FirstArrival p_x.1 p_x.2.1 e20 e21 e22).bind fun r23 =>
 (s_l1Num r23.1).bind fun r24 =>
 (s_csTold r24 r23.2).bind fun r25 =>
 some (p_x, r25)
def C104 : FnSpec := { ps := [.obox TGcsState, .val .str, .val (.slice (.int .i64))], rs := [.val .str], fn := fun x => s_csState_ask x.1 x.2.1 x.2.2 }
def E104 : Env := { T := [(3, (.int .i64)), (26, (.slice (.int .i64))), (31, (.slice TGTicket)), (46, TGNet), (65, (.slice TGTower)), (68, (.slice TGTower)), (83, TGcsState)], G := [(82, C82), (94, C94), (101, C101), (136, C136), (137, C137), (138, C138), (139, C139), (140, C140)], ro := [], loops := [], joins := [] }
theorem S104 : Sound Tryz.prog 104 C104 := fun_sound_obox (E := E104) ⟨good_T (by kernel_rfl), (good_cons S82 ⟨_, Tryz.func82, by kernel_rfl, by kernel_rfl⟩ (good_cons S94 ⟨_, Tryz.func94, by kernel_rfl, by kernel_rfl⟩ (good_cons S101 ⟨_, Tryz.func101, by kernel_rfl, by kernel_rfl⟩ (good_cons S136 ⟨_, Tryz.func136, by kernel_rfl, by kernel_rfl⟩ (good_cons S137 ⟨_, Tryz.func137, by kernel_rfl, by kernel_rfl⟩ (good_cons S138 ⟨_, Tryz.func138, by kernel_rfl, by kernel_rfl⟩ (good_cons S139 ⟨_, Tryz.func139, by kernel_rfl, by kernel_rfl⟩ (good_cons S140 ⟨_, Tryz.func140, by kernel_rfl, by kernel_rfl⟩ good_nil)))))))), mixedOk, ins_nil⟩ Tryz.func104 rfl rfl fun _ => by kernel_rfl
def s_csState_line (p_x : GcsState) (p_t : Bytes) : Option (GcsState × Bytes) :=
 (s_l1Split p_t 32).bind fun r1 =>
 (s_csParse r1).bind fun r2 =>
 bif (!r2.2.2) then
 some (p_x, w_what)
 else
 bif decide (0 ≤ 0) && decide (0 < (r1.length : Int)) then
 (r1[(Int.toNat 0)]?).bind fun e3 =>
 bif (decide (e3 = w_towers)) then
 (s_csWords [(p_x.1.1.length : Int), (p_x.1.2.1.length : Int)]).bind fun r4 =>
 some (p_x, r4)
 else
 bif (decide (e3 = w_code)) then
 (s_EncodeMessage p_x.2.2.1 r2.1).bind fun r5 =>
 (s_csList r5.1 r5.2).bind fun r6 =>
 some (p_x, r6)
 else
 bif (decide (e3 = w_phrase)) then
 (s_csState_phrase p_x r2.1 r2.2.1).bind fun r7 =>
 some (r7.1, r7.2)
 else
 bif (decide (e3 = w_tower)) then
 (s_csState_tower p_x r2.2.1).bind fun r8 =>
 some (r8.1, r8.2)
 else
 bif (decide (e3 = w_link)) then
 (s_csState_link p_x r2.2.1).bind fun r9 =>
 some (r9.1, r9.2)
 else
 bif (decide (e3 = w_fog)) then
 (s_csState_fog p_x r2.2.1).bind fun r10 =>
 some (r10.1, r10.2)
 else
 bif (decide (e3 = w_shift)) then
 (s_csState_shift p_x r2.2.1).bind fun r11 =>
 some (r11.1, r11.2)
 else
 bif (decide (e3 = w_read)) then
 (s_ReadMessage p_x.2.2.1 r2.2.1).bind fun r12 =>
 (s_csTold r12.1 r12.2).bind fun r13 =>
 some (p_x, r13)
 else
 bif (decide (e3 = w_hide)) then
 (s_csState_hide p_x r2.2.1).bind fun r14 =>
 some (r14.1, r14.2)
 else
 bif decide (0 ≤ 0) && decide (0 < (r1.length : Int)) then
 (r1[(Int.toNat 0)]?).bind fun e15 =>
 (s_csState_ask p_x e15 r2.2.1).bind fun r16 =>
 some (r16.1, r16.2)
 else
 none
 else
 none
def C74 : FnSpec := { ps := [.obox TGcsState, .val .str], rs := [.val .str], fn := fun x => s_csState_line x.1 x.2 }
def E74 : Env := { T := [(9, .str), (26, (.slice (.int .i64))), (38, TGBook), (43, (.slice TGTower)), (44, (.slice TGTower)), (46, TGNet), (69, (.slice .str)), (83, TGcsState)], G := [(85, C85), (92, C92), (93, C93), (94, C94), (95, C95), (96, C96), (97, C97), (98, C98), (99, C99), (100, C100), (101, C101), (102, C102), (103, C103), (104, C104)], ro := [], loops := [], joins := [] }
theorem S74 : Sound Tryz.prog 74 C74 := fun_sound_obox (E := E74) ⟨good_T (by kernel_rfl), (good_cons S85 ⟨_, Tryz.func85, by kernel_rfl, by kernel_rfl⟩ (good_cons S92 ⟨_, Tryz.func92, by kernel_rfl, by kernel_rfl⟩ (good_cons S93 ⟨_, Tryz.func93, by kernel_rfl, by kernel_rfl⟩ (good_cons S94 ⟨_, Tryz.func94, by kernel_rfl, by kernel_rfl⟩ (good_cons S95 ⟨_, Tryz.func95, by kernel_rfl, by kernel_rfl⟩ (good_cons S96 ⟨_, Tryz.func96, by kernel_rfl, by kernel_rfl⟩ (good_cons S97 ⟨_, Tryz.func97, by kernel_rfl, by kernel_rfl⟩ (good_cons S98 ⟨_, Tryz.func98, by kernel_rfl, by kernel_rfl⟩ (good_cons S99 ⟨_, Tryz.func99, by kernel_rfl, by kernel_rfl⟩ (good_cons S100 ⟨_, Tryz.func100, by kernel_rfl, by kernel_rfl⟩ (good_cons S101 ⟨_, Tryz.func101, by kernel_rfl, by kernel_rfl⟩ (good_cons S102 ⟨_, Tryz.func102, by kernel_rfl, by kernel_rfl⟩ (good_cons S103 ⟨_, Tryz.func103, by kernel_rfl, by kernel_rfl⟩ (good_cons S104 ⟨_, Tryz.func104, by kernel_rfl, by kernel_rfl⟩ good_nil)))))))))))))), mixedOk, ins_nil⟩ Tryz.func74 rfl rfl fun _ => by kernel_rfl
def s_csRun (p_script : Bytes) : Option (GcsState × Bytes × Bool) :=
 (s_csStart).bind fun r1 =>
 (s_csLines p_script).bind fun r2 =>
 bif (!r2.2) then
 some (r1, [], false)
 else
 (loopE (fun (st4 : (List GTower) × (List GTower) × (List GTower) × (List GPhrase) × Int × Int × (List Int) × (List GTicket) × (List GTower) × (List Int) × (List Int) × Int × Bytes × Int) => (
 bif (decide (st4.2.2.2.2.2.2.2.2.2.2.2.2.2 < (r2.1.length : Int))) then
 (idx r2.1 st4.2.2.2.2.2.2.2.2.2.2.2.2.2).bind fun e5 =>
 (s_csState_line ((st4.1, st4.2.1, ()), st4.2.2.1, (st4.2.2.2.1, ()), (st4.2.2.2.2.1, st4.2.2.2.2.2.1, st4.2.2.2.2.2.2.1, ()), st4.2.2.2.2.2.2.2.1, st4.2.2.2.2.2.2.2.2.1, st4.2.2.2.2.2.2.2.2.2.1, st4.2.2.2.2.2.2.2.2.2.2.1, st4.2.2.2.2.2.2.2.2.2.2.2.1, ()) e5).bind fun r6 =>
 bif (decide (r6.2 = ([110, 111] : Bytes))) then
 bif decide (List.length r6.1.2.2.2.2.2.2.1 + List.length [(w64 (st4.2.2.2.2.2.2.2.2.2.2.2.2.2 + 1))] ≤ lim) then
 bif decide (List.length r6.2 + List.length ([10] : Bytes) ≤ lim) then
 bif decide (List.length st4.2.2.2.2.2.2.2.2.2.2.2.2.1 + List.length (r6.2 ++ ([10] : Bytes)) ≤ lim) then
 some (.inl (r6.1.1.1, r6.1.1.2.1, r6.1.2.1, r6.1.2.2.1.1, r6.1.2.2.2.1.1, r6.1.2.2.2.1.2.1, r6.1.2.2.2.1.2.2.1, r6.1.2.2.2.2.1, r6.1.2.2.2.2.2.1, (r6.1.2.2.2.2.2.2.1 ++ [(w64 (st4.2.2.2.2.2.2.2.2.2.2.2.2.2 + 1))]), r6.1.2.2.2.2.2.2.2.1, r6.1.2.2.2.2.2.2.2.2.1, (st4.2.2.2.2.2.2.2.2.2.2.2.2.1 ++ (r6.2 ++ ([10] : Bytes))), (w64 (st4.2.2.2.2.2.2.2.2.2.2.2.2.2 + 1))))
 else
 none
 else
 none
 else
 none
 else
 bif (decide (r6.2 = w_what)) then
 bif decide (List.length r6.1.2.2.2.2.2.2.2.1 + List.length [(w64 (st4.2.2.2.2.2.2.2.2.2.2.2.2.2 + 1))] ≤ lim) then
 bif decide (List.length r6.2 + List.length ([10] : Bytes) ≤ lim) then
 bif decide (List.length st4.2.2.2.2.2.2.2.2.2.2.2.2.1 + List.length (r6.2 ++ ([10] : Bytes)) ≤ lim) then
 some (.inl (r6.1.1.1, r6.1.1.2.1, r6.1.2.1, r6.1.2.2.1.1, r6.1.2.2.2.1.1, r6.1.2.2.2.1.2.1, r6.1.2.2.2.1.2.2.1, r6.1.2.2.2.2.1, r6.1.2.2.2.2.2.1, r6.1.2.2.2.2.2.2.1, (r6.1.2.2.2.2.2.2.2.1 ++ [(w64 (st4.2.2.2.2.2.2.2.2.2.2.2.2.2 + 1))]), r6.1.2.2.2.2.2.2.2.2.1, (st4.2.2.2.2.2.2.2.2.2.2.2.2.1 ++ (r6.2 ++ ([10] : Bytes))), (w64 (st4.2.2.2.2.2.2.2.2.2.2.2.2.2 + 1))))
 else
 none
 else
 none
 else
 none
 else
 bif decide (List.length r6.2 + List.length ([10] : Bytes) ≤ lim) then
 bif decide (List.length st4.2.2.2.2.2.2.2.2.2.2.2.2.1 + List.length (r6.2 ++ ([10] : Bytes)) ≤ lim) then
 some (.inl (r6.1.1.1, r6.1.1.2.1, r6.1.2.1, r6.1.2.2.1.1, r6.1.2.2.2.1.1, r6.1.2.2.2.1.2.1, r6.1.2.2.2.1.2.2.1, r6.1.2.2.2.2.1, r6.1.2.2.2.2.2.1, r6.1.2.2.2.2.2.2.1, r6.1.2.2.2.2.2.2.2.1, r6.1.2.2.2.2.2.2.2.2.1, (st4.2.2.2.2.2.2.2.2.2.2.2.2.1 ++ (r6.2 ++ ([10] : Bytes))), (w64 (st4.2.2.2.2.2.2.2.2.2.2.2.2.2 + 1))))
 else
 none
 else
 none
 else
 some (.inr (st4.1, st4.2.1, st4.2.2.1, st4.2.2.2.1, st4.2.2.2.2.1, st4.2.2.2.2.2.1, st4.2.2.2.2.2.2.1, st4.2.2.2.2.2.2.2.1, st4.2.2.2.2.2.2.2.2.1, st4.2.2.2.2.2.2.2.2.2.1, st4.2.2.2.2.2.2.2.2.2.2.1, st4.2.2.2.2.2.2.2.2.2.2.2.1, st4.2.2.2.2.2.2.2.2.2.2.2.2.1)) : Option (((List GTower) × (List GTower) × (List GTower) × (List GPhrase) × Int × Int × (List Int) × (List GTicket) × (List GTower) × (List Int) × (List Int) × Int × Bytes × Int) ⊕ (((List GTower) × (List GTower) × (List GTower) × (List GPhrase) × Int × Int × (List Int) × (List GTicket) × (List GTower) × (List Int) × (List Int) × Int × Bytes))))) (r1.1.1, r1.1.2.1, r1.2.1, r1.2.2.1.1, r1.2.2.2.1.1, r1.2.2.2.1.2.1, r1.2.2.2.1.2.2.1, r1.2.2.2.2.1, r1.2.2.2.2.2.1, r1.2.2.2.2.2.2.1, r1.2.2.2.2.2.2.2.1, r1.2.2.2.2.2.2.2.2.1, [], 0)).bind fun o7 =>
 some (((o7.1, o7.2.1, ()), o7.2.2.1, (o7.2.2.2.1, ()), (o7.2.2.2.2.1, o7.2.2.2.2.2.1, o7.2.2.2.2.2.2.1, ()), o7.2.2.2.2.2.2.2.1, o7.2.2.2.2.2.2.2.2.1, o7.2.2.2.2.2.2.2.2.2.1, o7.2.2.2.2.2.2.2.2.2.2.1, (r2.1.length : Int), ()), o7.2.2.2.2.2.2.2.2.2.2.2.2, true)
def C46 : FnSpec := { ps := [.val .str], rs := [.ob TGcsState, .val .str, .val .bool], fn := fun x => s_csRun x }
def E46 : Env := { T := [(3, (.int .i64)), (9, .str), (26, (.slice (.int .i64))), (69, (.slice .str)), (83, TGcsState)], G := [(66, C66), (73, C73), (74, C74)], ro := [], loops := [(7, { keep := [6, 21, 22], live := [.bx 5 192 [.own 193 TGTower true, .own 194 TGTower true, .own 195 TGTower true, .own 196 TGPhrase true, .pv (.int .i64), .pv (.int .i64), .own 197 (.int .i64) true, .own 198 TGTicket true, .own 199 TGTower true, .own 200 (.int .i64) true, .own 201 (.int .i64) true, .pv (.int .i64)], .tv 8 .str, .tv 23 (.int .i64)], outs := [(.exit 0, [.bx 5 192 [.own 193 TGTower true, .own 194 TGTower true, .own 195 TGTower true, .own 196 TGPhrase true, .pv (.int .i64), .pv (.int .i64), .own 197 (.int .i64) true, .own 198 TGTicket true, .own 199 TGTower true, .own 200 (.int .i64) true, .own 201 (.int .i64) true, .pv (.int .i64)], .tv 8 .str])] })], joins := [] }
theorem S46 : Sound Tryz.prog 46 C46 := fun_sound (E := E46) ⟨good_T (by kernel_rfl), (good_cons S66 ⟨_, Tryz.func66, by kernel_rfl, by kernel_rfl⟩ (good_cons S73 ⟨_, Tryz.func73, by kernel_rfl, by kernel_rfl⟩ (good_cons S74 ⟨_, Tryz.func74, by kernel_rfl, by kernel_rfl⟩ good_nil))), mixedOk, ins_nil⟩ Tryz.func46 rfl fun _ => by kernel_rfl
def internal_stringslite_HasSuffix (p_s : Bytes) (p_suffix : Bytes) : Option (Bool) :=
 (bif (decide ((p_suffix.length : Int) ≤ (p_s.length : Int))) then
 (sub p_s (w64 ((p_s.length : Int) - (p_suffix.length : Int))) (p_s.length : Int)).bind fun l1 =>
 some (decide (l1 = p_suffix))
 else
 some false).bind fun c2 =>
 some c2
def C226 : FnSpec := { ps := [.val .str, .val .str], rs := [.val .bool], fn := fun x => internal_stringslite_HasSuffix x.1 x.2 }
def E226 : Env := { T := [(9, .str)], G := [], ro := [], loops := [], joins := [] }
theorem S226 : Sound Tryz.prog 226 C226 := fun_sound (E := E226) ⟨good_T (by kernel_rfl), good_nil, mixedOk, ins_nil⟩ Tryz.func226 rfl fun _ => by kernel_rfl
def internal_stringslite_CutSuffix (p_s : Bytes) (p_suffix : Bytes) : Option (Bytes × Bool) :=
 (internal_stringslite_HasSuffix p_s p_suffix).bind fun r1 =>
 bif (!r1) then
 some (p_s, false)
 else
 (sub p_s 0 (w64 ((p_s.length : Int) - (p_suffix.length : Int)))).bind fun l2 =>
 some (l2, true)
def C162 : FnSpec := { ps := [.val .str, .val .str], rs := [.val .str, .val .bool], fn := fun x => internal_stringslite_CutSuffix x.1 x.2 }
def E162 : Env := { T := [(9, .str)], G := [(226, C226)], ro := [], loops := [], joins := [] }
theorem S162 : Sound Tryz.prog 162 C162 := fun_sound (E := E162) ⟨good_T (by kernel_rfl), (good_cons S226 ⟨_, Tryz.func226, by kernel_rfl, by kernel_rfl⟩ good_nil), mixedOk, ins_nil⟩ Tryz.func162 rfl fun _ => by kernel_rfl
def strings_CutSuffix (p_s : Bytes) (p_suffix : Bytes) : Option (Bytes × Bool) :=
 (internal_stringslite_CutSuffix p_s p_suffix).bind fun r1 =>
 some (r1.1, r1.2)
def C114 : FnSpec := { ps := [.val .str, .val .str], rs := [.val .str, .val .bool], fn := fun x => strings_CutSuffix x.1 x.2 }
def E114 : Env := { T := [], G := [(162, C162)], ro := [], loops := [], joins := [] }
theorem S114 : Sound Tryz.prog 114 C114 := fun_sound (E := E114) ⟨good_T (by kernel_rfl), (good_cons S162 ⟨_, Tryz.func162, by kernel_rfl, by kernel_rfl⟩ good_nil), mixedOk, ins_nil⟩ Tryz.func114 rfl fun _ => by kernel_rfl
def i_linesOf (p_s : Bytes) : Option ((List Bytes) × Bool) :=
 bif (decide (p_s = [])) then
 some ([], true)
 else
 (strings_CutSuffix p_s ([10] : Bytes)).bind fun r1 =>
 bif (!r1.2) then
 some ([], false)
 else
 (splitF r1.1 ([10] : Bytes)).bind fun r2 =>
 some (r2, true)
def C84 : FnSpec := { ps := [.val .str], rs := [.own (.slice .str), .val .bool], fn := fun x => i_linesOf x }
def E84 : Env := { T := [], G := [(105, C105), (114, C114)], ro := [], loops := [], joins := [] }
theorem S84 : Sound Tryz.prog 84 C84 := fun_sound (E := E84) ⟨good_T (by kernel_rfl), (good_cons S105 ⟨_, Tryz.func105, by kernel_rfl, by kernel_rfl⟩ (good_cons S114 ⟨_, Tryz.func114, by kernel_rfl, by kernel_rfl⟩ good_nil)), mixedOk, ins_nil⟩ Tryz.func84 rfl fun _ => by kernel_rfl
def i_scriptLines (p_script : Bytes) : Option ((List Bytes) × Bool) :=
 bif (decide (2000 < (p_script.length : Int))) then
 some ([], false)
 else
 (i_linesOf p_script).bind fun r1 =>
 (bif (!r1.2) then
 some true
 else
 some (decide (40 < (r1.1.length : Int)))).bind fun c2 =>
 bif c2 then
 some ([], false)
 else
 some (r1.1, true)
def C65 : FnSpec := { ps := [.val .str], rs := [.own (.slice .str), .val .bool], fn := fun x => i_scriptLines x }
def E65 : Env := { T := [(9, .str), (69, (.slice .str))], G := [(84, C84)], ro := [], loops := [], joins := [] }
theorem S65 : Sound Tryz.prog 65 C65 := fun_sound (E := E65) ⟨good_T (by kernel_rfl), (good_cons S84 ⟨_, Tryz.func84, by kernel_rfl, by kernel_rfl⟩ good_nil), mixedOk, ins_nil⟩ Tryz.func65 rfl fun _ => by kernel_rfl
def i_runScript (p_script : Bytes) : Option (GscriptState × Bool) :=
 (i_scriptLines p_script).bind fun r1 =>
 bif (!r1.2) then
 some ((([], [], ()), [], ([], ()), (0, 0, [], ()), [], [], [], ()), false)
 else
 (loopE (fun (st3 : (List GTower) × (List GTower) × (List GTower) × (List GPhrase) × Int × Int × (List Int) × (List GTicket) × (List GTower) × (List Bytes) × (List GTower) × (List GTower) × (List GTower) × (List GPhrase) × Int × Int × (List Int) × (List GTicket) × (List GTower) × (List Bytes) × (List Bytes) × Int) => (
 bif (decide (st3.2.2.2.2.2.2.2.2.2.2.2.2.2.2.2.2.2.2.2.2.2 < (r1.1.length : Int))) then
 bif decide (0 ≤ st3.2.2.2.2.2.2.2.2.2.2.2.2.2.2.2.2.2.2.2.2.2) && decide (st3.2.2.2.2.2.2.2.2.2.2.2.2.2.2.2.2.2.2.2.2.2 < (st3.2.2.2.2.2.2.2.2.2.2.2.2.2.2.2.2.2.2.2.2.1.length : Int)) then
 (st3.2.2.2.2.2.2.2.2.2.2.2.2.2.2.2.2.2.2.2.2.1[(Int.toNat st3.2.2.2.2.2.2.2.2.2.2.2.2.2.2.2.2.2.2.2.2.2)]?).bind fun e4 =>
 bothSame (
 (replyF ((st3.2.2.2.2.2.2.2.2.2.2.1, st3.2.2.2.2.2.2.2.2.2.2.2.1, ()), st3.2.2.2.2.2.2.2.2.2.2.2.2.1, (st3.2.2.2.2.2.2.2.2.2.2.2.2.2.1, ()), (st3.2.2.2.2.2.2.2.2.2.2.2.2.2.2.1, st3.2.2.2.2.2.2.2.2.2.2.2.2.2.2.2.1, st3.2.2.2.2.2.2.2.2.2.2.2.2.2.2.2.2.1, ()), st3.2.2.2.2.2.2.2.2.2.2.2.2.2.2.2.2.2.1, st3.2.2.2.2.2.2.2.2.2.2.2.2.2.2.2.2.2.2.1, ()) e4).bind fun r5 =>
 bif decide (List.length st3.2.2.2.2.2.2.2.2.2.2.2.2.2.2.2.2.2.2.2.1 + List.length [r5.2] ≤ lim) then
 some (.inl (st3.1, st3.2.1, st3.2.2.1, st3.2.2.2.1, st3.2.2.2.2.1, st3.2.2.2.2.2.1, st3.2.2.2.2.2.2.1, st3.2.2.2.2.2.2.2.1, st3.2.2.2.2.2.2.2.2.1, st3.2.2.2.2.2.2.2.2.2.1, r5.1.1.1, r5.1.1.2.1, r5.1.2.1, r5.1.2.2.1.1, r5.1.2.2.2.1.1, r5.1.2.2.2.1.2.1, r5.1.2.2.2.1.2.2.1, r5.1.2.2.2.2.1, r5.1.2.2.2.2.2.1, (st3.2.2.2.2.2.2.2.2.2.2.2.2.2.2.2.2.2.2.2.1 ++ [r5.2]), st3.2.2.2.2.2.2.2.2.2.2.2.2.2.2.2.2.2.2.2.2.1, (w64 (st3.2.2.2.2.2.2.2.2.2.2.2.2.2.2.2.2.2.2.2.2.2 + 1))))
 else
 none)
 (
 (replyF ((st3.2.2.2.2.2.2.2.2.2.2.1, st3.2.2.2.2.2.2.2.2.2.2.2.1, ()), st3.2.2.2.2.2.2.2.2.2.2.2.2.1, (st3.2.2.2.2.2.2.2.2.2.2.2.2.2.1, ()), (st3.2.2.2.2.2.2.2.2.2.2.2.2.2.2.1, st3.2.2.2.2.2.2.2.2.2.2.2.2.2.2.2.1, st3.2.2.2.2.2.2.2.2.2.2.2.2.2.2.2.2.1, ()), st3.2.2.2.2.2.2.2.2.2.2.2.2.2.2.2.2.2.1, st3.2.2.2.2.2.2.2.2.2.2.2.2.2.2.2.2.2.2.1, ()) e4).bind fun r6 =>
 bothSame (
 bif decide (List.length st3.2.2.2.2.2.2.2.2.2.2.2.2.2.2.2.2.2.2.2.1 + List.length [r6.2] ≤ lim) then
 some (.inl (st3.1, st3.2.1, st3.2.2.1, st3.2.2.2.1, st3.2.2.2.2.1, st3.2.2.2.2.2.1, st3.2.2.2.2.2.2.1, st3.2.2.2.2.2.2.2.1, st3.2.2.2.2.2.2.2.2.1, st3.2.2.2.2.2.2.2.2.2.1, r6.1.1.1, r6.1.1.2.1, r6.1.2.1, r6.1.2.2.1.1, r6.1.2.2.2.1.1, r6.1.2.2.2.1.2.1, r6.1.2.2.2.1.2.2.1, r6.1.2.2.2.2.1, r6.1.2.2.2.2.2.1, (st3.2.2.2.2.2.2.2.2.2.2.2.2.2.2.2.2.2.2.2.1 ++ [r6.2]), st3.2.2.2.2.2.2.2.2.2.2.2.2.2.2.2.2.2.2.2.2.1, (w64 (st3.2.2.2.2.2.2.2.2.2.2.2.2.2.2.2.2.2.2.2.2.2 + 1))))
 else
 none)
 (
 bif decide (List.length st3.2.2.2.2.2.2.2.2.2.2.2.2.2.2.2.2.2.2.2.1 + List.length [r6.2] ≤ lim) then
 some (.inl (st3.1, st3.2.1, st3.2.2.1, st3.2.2.2.1, st3.2.2.2.2.1, st3.2.2.2.2.2.1, st3.2.2.2.2.2.2.1, st3.2.2.2.2.2.2.2.1, st3.2.2.2.2.2.2.2.2.1, st3.2.2.2.2.2.2.2.2.2.1, r6.1.1.1, r6.1.1.2.1, r6.1.2.1, r6.1.2.2.1.1, r6.1.2.2.2.1.1, r6.1.2.2.2.1.2.1, r6.1.2.2.2.1.2.2.1, r6.1.2.2.2.2.1, r6.1.2.2.2.2.2.1, (st3.2.2.2.2.2.2.2.2.2.2.2.2.2.2.2.2.2.2.2.1 ++ [r6.2]), st3.2.2.2.2.2.2.2.2.2.2.2.2.2.2.2.2.2.2.2.2.1, (w64 (st3.2.2.2.2.2.2.2.2.2.2.2.2.2.2.2.2.2.2.2.2.2 + 1))))
 else
 none))
 else
 none
 else
 some (.inr (st3.1, st3.2.1, st3.2.2.1, st3.2.2.2.1, st3.2.2.2.2.1, st3.2.2.2.2.2.1, st3.2.2.2.2.2.2.1, st3.2.2.2.2.2.2.2.1, st3.2.2.2.2.2.2.2.2.1, st3.2.2.2.2.2.2.2.2.2.1, st3.2.2.2.2.2.2.2.2.2.2.1, st3.2.2.2.2.2.2.2.2.2.2.2.1, st3.2.2.2.2.2.2.2.2.2.2.2.2.1, st3.2.2.2.2.2.2.2.2.2.2.2.2.2.1, st3.2.2.2.2.2.2.2.2.2.2.2.2.2.2.1, st3.2.2.2.2.2.2.2.2.2.2.2.2.2.2.2.1, st3.2.2.2.2.2.2.2.2.2.2.2.2.2.2.2.2.1, st3.2.2.2.2.2.2.2.2.2.2.2.2.2.2.2.2.2.1, st3.2.2.2.2.2.2.2.2.2.2.2.2.2.2.2.2.2.2.1, st3.2.2.2.2.2.2.2.2.2.2.2.2.2.2.2.2.2.2.2.1)) : Option (((List GTower) × (List GTower) × (List GTower) × (List GPhrase) × Int × Int × (List Int) × (List GTicket) × (List GTower) × (List Bytes) × (List GTower) × (List GTower) × (List GTower) × (List GPhrase) × Int × Int × (List Int) × (List GTicket) × (List GTower) × (List Bytes) × (List Bytes) × Int) ⊕ (((List GTower) × (List GTower) × (List GTower) × (List GPhrase) × Int × Int × (List Int) × (List GTicket) × (List GTower) × (List Bytes) × (List GTower) × (List GTower) × (List GTower) × (List GPhrase) × Int × Int × (List Int) × (List GTicket) × (List GTower) × (List Bytes)))))) ([], [], [], [], 0, 0, [], [], [], [], [(0, 0, 20, ())], [], [], [(([97] : Bytes), [1], ())], 7, 10, [], [], [], [], r1.1, 0)).bind fun o7 =>
 some (((o7.2.2.2.2.2.2.2.2.2.2.1, o7.2.2.2.2.2.2.2.2.2.2.2.1, ()), o7.2.2.2.2.2.2.2.2.2.2.2.2.1, (o7.2.2.2.2.2.2.2.2.2.2.2.2.2.1, ()), (o7.2.2.2.2.2.2.2.2.2.2.2.2.2.2.1, o7.2.2.2.2.2.2.2.2.2.2.2.2.2.2.2.1, o7.2.2.2.2.2.2.2.2.2.2.2.2.2.2.2.2.1, ()), o7.2.2.2.2.2.2.2.2.2.2.2.2.2.2.2.2.2.1, o7.2.2.2.2.2.2.2.2.2.2.2.2.2.2.2.2.2.2.1, o7.2.2.2.2.2.2.2.2.2.2.2.2.2.2.2.2.2.2.2, ()), true)
def C47 : FnSpec := { ps := [.val .str], rs := [.own TGscriptState, .val .bool], fn := fun x => i_runScript x }
def E47 : Env := { T := [(9, .str), (26, (.slice (.int .i64))), (36, (.slice TGPhrase)), (38, TGBook), (43, (.slice TGTower)), (46, TGNet), (67, TGKeyBook), (69, (.slice .str)), (71, TGscriptState), (104, TGTower), (108, TGPhrase)], G := [(65, C65)], ro := [], loops := [(6, { keep := [27], live := [.bx 2 32 [.own 300032 TGTower true, .own 300033 TGTower true, .own 300034 TGTower true, .own 300035 TGPhrase true, .pv (.int .i64), .pv (.int .i64), .own 300038 (.int .i64) true, .own 300039 TGTicket true, .own 300040 TGTower true, .own 300041 .str true], .bx 6 96 [.own 288 TGTower true, .own 300097 TGTower true, .own 300098 TGTower true, .own 352 TGPhrase true, .pv (.int .i64), .pv (.int .i64), .own 300102 (.int .i64) true, .own 300103 TGTicket true, .own 300104 TGTower true, .own 300105 .str true], .own 26 [] 176 .str true, .tv 28 (.int .i64)], outs := [(.exit 0, [.bx 2 32 [.own 300032 TGTower true, .own 300033 TGTower true, .own 300034 TGTower true, .own 300035 TGPhrase true, .pv (.int .i64), .pv (.int .i64), .own 300038 (.int .i64) true, .own 300039 TGTicket true, .own 300040 TGTower true, .own 300041 .str true], .bx 6 96 [.own 288 TGTower true, .own 300097 TGTower true, .own 300098 TGTower true, .own 352 TGPhrase true, .pv (.int .i64), .pv (.int .i64), .own 300102 (.int .i64) true, .own 300103 TGTicket true, .own 300104 TGTower true, .own 300105 .str true]])] })], joins := [], mv := true, every := [8], keepc := [(75, ReplyK)] }
theorem S47 : Sound Tryz.prog 47 C47 := fun_sound (E := E47) ⟨good_T (by kernel_rfl), (good_cons S65 ⟨_, Tryz.func65, by kernel_rfl, by kernel_rfl⟩ good_nil), mixedOk, (keep_cons ReplyKOk ⟨_, Tryz.func75, by kernel_rfl, by kernel_rfl⟩ ins_nil)⟩ Tryz.func47 rfl fun _ => by kernel_rfl
def s_CountReplies (p_script : Bytes) : Option (Int × Int × Int × Bool) :=
 (s_csRun p_script).bind fun r1 =>
 bif (!r1.2.2) then
 some (0, 0, 0, false)
 else
 some ((r1.1.2.2.2.2.2.2.1.length : Int), (r1.1.2.2.2.2.2.2.2.1.length : Int), (w64 ((w64 (r1.1.2.2.2.2.2.2.2.2.1 - (r1.1.2.2.2.2.2.2.1.length : Int))) - (r1.1.2.2.2.2.2.2.2.1.length : Int))), true)
def C12 : FnSpec := { ps := [.val .str], rs := [.val (.int .i64), .val (.int .i64), .val (.int .i64), .val .bool], fn := fun x => s_CountReplies x }
def E12 : Env := { T := [(3, (.int .i64)), (26, (.slice (.int .i64))), (83, TGcsState)], G := [(46, C46)], ro := [], loops := [], joins := [] }
theorem S12 : Sound Tryz.prog 12 C12 := fun_sound (E := E12) ⟨good_T (by kernel_rfl), (good_cons S46 ⟨_, Tryz.func46, by kernel_rfl, by kernel_rfl⟩ good_nil), mixedOk, ins_nil⟩ Tryz.func12 rfl fun _ => by kernel_rfl
def i_CountReplies (p_script : Bytes) : Option (Int × Int × Int × Bool) :=
 (i_runScript p_script).bind fun r1 =>
 (loopE (fun (st3 : Int × Int × Int × (List Bytes) × Int) => (
 bif (decide (st3.2.2.2.2 < (r1.1.2.2.2.2.2.2.1.length : Int))) then
 bif decide (0 ≤ st3.2.2.2.2) && decide (st3.2.2.2.2 < (st3.2.2.2.1.length : Int)) then
 (st3.2.2.2.1[(Int.toNat st3.2.2.2.2)]?).bind fun e4 =>
 bif (decide (e4 = ([110, 111] : Bytes))) then
 some (.inl ((w64 (st3.1 + 1)), st3.2.1, st3.2.2.1, st3.2.2.2.1, (w64 (st3.2.2.2.2 + 1))))
 else
 bif (decide (e4 = w_what)) then
 some (.inl (st3.1, (w64 (st3.2.1 + 1)), st3.2.2.1, st3.2.2.2.1, (w64 (st3.2.2.2.2 + 1))))
 else
 some (.inl (st3.1, st3.2.1, (w64 (st3.2.2.1 + 1)), st3.2.2.2.1, (w64 (st3.2.2.2.2 + 1))))
 else
 none
 else
 some (.inr (st3.1, st3.2.1, st3.2.2.1)) : Option ((Int × Int × Int × (List Bytes) × Int) ⊕ ((Int × Int × Int))))) (0, 0, 0, r1.1.2.2.2.2.2.2.1, 0)).bind fun o5 =>
 some (o5.1, o5.2.1, o5.2.2, r1.2)
def C13 : FnSpec := { ps := [.val .str], rs := [.val (.int .i64), .val (.int .i64), .val (.int .i64), .val .bool], fn := fun x => i_CountReplies x }
def E13 : Env := { T := [(9, .str), (69, (.slice .str)), (71, TGscriptState)], G := [(47, C47)], ro := [], loops := [(4, { keep := [7, 20], live := [.tv 8 (.int .i64), .tv 9 (.int .i64), .tv 10 (.int .i64), .own 19 [] 247 .str true, .tv 21 (.int .i64)], outs := [(.exit 0, [.tv 8 (.int .i64), .tv 9 (.int .i64), .tv 10 (.int .i64)])] })], joins := [] }
theorem S13 : Sound Tryz.prog 13 C13 := fun_sound (E := E13) ⟨good_T (by kernel_rfl), (good_cons S47 ⟨_, Tryz.func47, by kernel_rfl, by kernel_rfl⟩ good_nil), mixedOk, ins_nil⟩ Tryz.func13 rfl fun _ => by kernel_rfl
def l_FnExactCountReplies (p_aScript : Bytes) : Option (Bool) :=
 bif (decide (1048576 < (p_aScript.length : Int))) then
 some true
 else
 (s_CountReplies p_aScript).bind fun r1 =>
 (i_CountReplies p_aScript).bind fun r2 =>
 (bif (!decide (r2.1 = r1.1)) then
 some true
 else
 some (!decide (r2.2.1 = r1.2.1))).bind fun c3 =>
 (bif c3 then
 some true
 else
 some (!decide (r2.2.2.1 = r1.2.2.1))).bind fun c4 =>
 (bif c4 then
 some true
 else
 some (r2.2.2.2 != r1.2.2.2)).bind fun c5 =>
 bif c5 then
 some false
 else
 some true
def C4 : FnSpec := { ps := [.val .str], rs := [.val .bool], fn := fun x => l_FnExactCountReplies x }
def E4 : Env := { T := [(4, .bool), (9, .str)], G := [(12, C12), (13, C13)], ro := [], loops := [], joins := [] }
theorem S4 : Sound Tryz.prog 4 C4 := fun_sound (E := E4) ⟨good_T (by kernel_rfl), (good_cons S12 ⟨_, Tryz.func12, by kernel_rfl, by kernel_rfl⟩ (good_cons S13 ⟨_, Tryz.func13, by kernel_rfl, by kernel_rfl⟩ good_nil)), mixedOk, ins_nil⟩ Tryz.func4 rfl fun _ => by kernel_rfl
def s_RunLines (p_script : Bytes) : Option (Bytes) :=
 (s_csRun p_script).bind fun r1 =>
 some r1.2.1
def C10 : FnSpec := { ps := [.val .str], rs := [.val .str], fn := fun x => s_RunLines x }
def E10 : Env := { T := [], G := [(46, C46)], ro := [], loops := [], joins := [] }
theorem S10 : Sound Tryz.prog 10 C10 := fun_sound (E := E10) ⟨good_T (by kernel_rfl), (good_cons S46 ⟨_, Tryz.func46, by kernel_rfl, by kernel_rfl⟩ good_nil), mixedOk, ins_nil⟩ Tryz.func10 rfl fun _ => by kernel_rfl
end
end Go.Proofs.YtkemmodgpafkmaaGreatDoor.Sh
