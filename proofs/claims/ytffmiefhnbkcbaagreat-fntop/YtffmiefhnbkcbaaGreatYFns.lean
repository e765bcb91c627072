/-
  The functions that the statement reaches, as plain functions; each with its contract.
-/
import Derived.Test.YtffmiefhnbkcbaaGreatXLift
import Derived.Test.YtffmiefhnbkcbaaGreatChecked
import Derived.KernelRfl
import Derived.Test.YtffmiefhnbkcbaaGreatYWalkI
namespace Go.Proofs.YtffmiefhnbkcbaaGreat.Sh
open Go Go.Ab Go.Proofs
set_option maxRecDepth 100000
noncomputable section
abbrev TGDeskMove : Ty := .pair (.int .i64) (.pair (.int .i64) (.pair (.int .i64) .unit))
abbrev GDeskMove : Type := Int × Int × Int × Unit
abbrev TGl1Cur : Ty := .pair (.slice (.int .u8)) (.pair (.int .i64) (.pair (.int .u64) .unit))
abbrev Gl1Cur : Type := (List Int) × Int × Int × Unit
abbrev TGTicket : Ty := .pair (.int .i64) (.pair (.int .i64) (.pair (.slice (.int .i64)) (.pair (.int .i64) .unit)))
abbrev GTicket : Type := Int × Int × (List Int) × Int × Unit
abbrev TGPacket : Ty := .pair (.int .i64) (.pair (.int .i64) (.pair (.int .i64) (.pair (.slice (.int .i64)) .unit)))
abbrev GPacket : Type := Int × Int × Int × (List Int) × Unit
abbrev TGackRun : Ty := .pair (.int .u64) (.pair (.int .u64) (.pair (.int .i64) (.pair (.int .i64) (.pair (.int .i64) .unit))))
abbrev GackRun : Type := Int × Int × Int × Int × Int × Unit
abbrev TGakState : Ty := .pair (.slice (.int .i64)) (.pair (.slice (.int .i64)) (.pair (.int .i64) (.pair (.int .i64) (.pair (.int .i64) .unit))))
abbrev GakState : Type := (List Int) × (List Int) × Int × Int × Int × Unit
abbrev TGEntry : Ty := .pair (.int .i64) (.pair (.int .i64) (.pair (.int .i64) (.pair (.slice (.int .i64)) (.pair (.slice (.int .i64)) .unit))))
abbrev GEntry : Type := Int × Int × Int × (List Int) × (List Int) × Unit
theorem mixedOk : Tryz.prog.follows .mixedOrders = true := by kernel_rfl
def s_l1Cur_next (p_c : Gl1Cur) : Option (Gl1Cur × Int) :=
 (bif (decide (p_c.2.1 < (p_c.1.length : Int))) then
 (idx p_c.1 p_c.2.1).bind fun e1 =>
 some (p_c.1, p_c.2.1, p_c.2.2.1, (w64 e1))
 else
 some (p_c.1, p_c.2.1, p_c.2.2.1, 0)).bind fun j2 =>
 bif (decide ((w64 (j2.2.1 + 1)) ≤ (j2.1.length : Int))) then
 some ((j2.1, (w64 (j2.2.1 + 1)), (IntKind.u64.wrap ((IntKind.u64.wrap ((IntKind.u64.wrap (j2.2.2.1 * 6364136223846793005)) + (IntKind.u64.wrap j2.2.2.2))) + 1442695040888963407)), ()), j2.2.2.2)
 else
 some ((j2.1, (w64 (j2.2.1 + 1)), (IntKind.u64.wrap ((IntKind.u64.wrap ((IntKind.u64.wrap (j2.2.2.1 * 6364136223846793005)) + (IntKind.u64.wrap j2.2.2.2))) + 1442695040888963407)), ()), (w64 (bitsI .and .u64 (shiftI .shr .u64 (IntKind.u64.wrap ((IntKind.u64.wrap ((IntKind.u64.wrap (j2.2.2.1 * 6364136223846793005)) + (IntKind.u64.wrap j2.2.2.2))) + 1442695040888963407)) 40) 255)))
def C93 : FnSpec := { ps := [.mbox TGl1Cur], rs := [.val (.int .i64)], fn := fun x => s_l1Cur_next x }
def E93 : Env := { T := [(3, (.int .i64)), (5, (.int .u8)), (22, (.slice (.int .u8))), (83, (.int .u64)), (85, TGl1Cur)], G := [], ro := [], loops := [], joins := [(4, { keep := [], live := [], outs := [(.normal, [.bx 0 100000 [.pv (.slice (.int .u8)), .pv (.int .i64), .pv (.int .u64)], .tv 3 (.int .i64)])] })] }
theorem S93 : Sound Tryz.prog 93 C93 := fun_sound_box (E := E93) ⟨good_T (by kernel_rfl), good_nil, mixedOk, ins_nil⟩ Tryz.func93 rfl fun _ => by kernel_rfl
def s_l1Cur_pick (p_c : Gl1Cur) (p_n : Int) : Option (Gl1Cur × Int) :=
 bif (decide (p_n ≤ 1)) then
 some (p_c, 0)
 else
 (s_l1Cur_next p_c).bind fun r1 =>
 bif (decide (200 < p_n)) then
 (s_l1Cur_next r1.1).bind fun r2 =>
 bif (!decide (p_n = 0)) then
 some (r2.1, (Int.tmod (w64 ((w64 (r1.2 * 256)) + r2.2)) p_n))
 else
 none
 else
 bif (!decide (p_n = 0)) then
 some (r1.1, (Int.tmod r1.2 p_n))
 else
 none
def C74 : FnSpec := { ps := [.mbox TGl1Cur, .val (.int .i64)], rs := [.val (.int .i64)], fn := fun x => s_l1Cur_pick x.1 x.2 }
def E74 : Env := { T := [], G := [(93, C93)], ro := [], loops := [], joins := [] }
theorem S74 : Sound Tryz.prog 74 C74 := fun_sound_box (E := E74) ⟨good_T (by kernel_rfl), (good_cons S93 ⟨_, Tryz.func93, by kernel_rfl, by kernel_rfl⟩ good_nil), mixedOk, ins_nil⟩ Tryz.func74 rfl fun _ => by kernel_rfl
def s_l1Cur_among (p_c : Gl1Cur) (p_list : List Int) : Option (Gl1Cur × Int) :=
 (s_l1Cur_pick p_c (p_list.length : Int)).bind fun r1 =>
 (idx p_list r1.2).bind fun e2 =>
 some (r1.1, e2)
def C52 : FnSpec := { ps := [.mbox TGl1Cur, .val (.slice (.int .i64))], rs := [.val (.int .i64)], fn := fun x => s_l1Cur_among x.1 x.2 }
def E52 : Env := { T := [(3, (.int .i64)), (23, (.slice (.int .i64)))], G := [(74, C74)], ro := [], loops := [], joins := [] }
theorem S52 : Sound Tryz.prog 52 C52 := fun_sound_box (E := E52) ⟨good_T (by kernel_rfl), (good_cons S74 ⟨_, Tryz.func74, by kernel_rfl, by kernel_rfl⟩ good_nil), mixedOk, ins_nil⟩ Tryz.func52 rfl fun _ => by kernel_rfl
def s_l1Cur_partsOf (p_c : Gl1Cur) : Option (Gl1Cur × Int) :=
 (s_l1Cur_among p_c [0, 10]).bind fun r1 =>
 (s_l1Cur_among r1.1 [1, 2, 3, 5, 9, 9, r1.2]).bind fun r2 =>
 some (r2.1, r2.2)
def C49 : FnSpec := { ps := [.mbox TGl1Cur], rs := [.val (.int .i64)], fn := fun x => s_l1Cur_partsOf x }
def E49 : Env := { T := [(23, (.slice (.int .i64)))], G := [(52, C52)], ro := [], loops := [], joins := [] }
theorem S49 : Sound Tryz.prog 49 C49 := fun_sound_box (E := E49) ⟨good_T (by kernel_rfl), (good_cons S52 ⟨_, Tryz.func52, by kernel_rfl, by kernel_rfl⟩ good_nil), mixedOk, ins_nil⟩ Tryz.func49 rfl fun _ => by kernel_rfl
def s_l1Cur_windowOf (p_c : Gl1Cur) : Option (Gl1Cur × Int) :=
 (s_l1Cur_among p_c [0, 10]).bind fun r1 =>
 (s_l1Cur_among r1.1 [1, 2, 3, 4, 9, r1.2]).bind fun r2 =>
 some (r2.1, r2.2)
def C50 : FnSpec := { ps := [.mbox TGl1Cur], rs := [.val (.int .i64)], fn := fun x => s_l1Cur_windowOf x }
def E50 : Env := { T := [(23, (.slice (.int .i64)))], G := [(52, C52)], ro := [], loops := [], joins := [] }
theorem S50 : Sound Tryz.prog 50 C50 := fun_sound_box (E := E50) ⟨good_T (by kernel_rfl), (good_cons S52 ⟨_, Tryz.func52, by kernel_rfl, by kernel_rfl⟩ good_nil), mixedOk, ins_nil⟩ Tryz.func50 rfl fun _ => by kernel_rfl
def s_l1Cur_one (p_c : Gl1Cur) (p_n : Int) : Option (Gl1Cur × Bool) :=
 (s_l1Cur_pick p_c p_n).bind fun r1 =>
 some (r1.1, (decide (r1.2 = 0)))
def C43 : FnSpec := { ps := [.mbox TGl1Cur, .val (.int .i64)], rs := [.val .bool], fn := fun x => s_l1Cur_one x.1 x.2 }
def E43 : Env := { T := [], G := [(74, C74)], ro := [], loops := [], joins := [] }
theorem S43 : Sound Tryz.prog 43 C43 := fun_sound_box (E := E43) ⟨good_T (by kernel_rfl), (good_cons S74 ⟨_, Tryz.func74, by kernel_rfl, by kernel_rfl⟩ good_nil), mixedOk, ins_nil⟩ Tryz.func43 rfl fun _ => by kernel_rfl
def s_l1Cur_ackScript (p_c : Gl1Cur) : Option (Gl1Cur × (List Int)) :=
 (s_l1Cur_pick p_c 9).bind fun r1 =>
 (s_l1Cur_one r1.1 16).bind fun r2 =>
 bif r2.2 then
 (s_l1Cur_pick r2.1 2).bind fun r3 =>
 (loopE (fun (st5 : (List Int) × Int × Int × (List Int)) => (
 bif (decide ((st5.2.2.2.length : Int) < (w64 (30 + r3.2)))) then
 (s_l1Cur_pick (st5.1, st5.2.1, st5.2.2.1, ()) 1024).bind fun r6 =>
 (s_l1Cur_among r6.1 [0, 0, 512, 1, 3, 511, 1023, r6.2]).bind fun r7 =>
 bif decide (List.length st5.2.2.2 + List.length [r7.2] ≤ lim) then
 some (.inl (r7.1.1, r7.1.2.1, r7.1.2.2.1, (st5.2.2.2 ++ [r7.2])))
 else
 none
 else
 some (.inr (st5.1, st5.2.1, st5.2.2.1, st5.2.2.2)) : Option (((List Int) × Int × Int × (List Int)) ⊕ (((List Int) × Int × Int × (List Int)))))) (r3.1.1, r3.1.2.1, r3.1.2.2.1, [])).bind fun o8 =>
 bif (decide (0 < (w64 (30 + r3.2)))) then
 (s_l1Cur_one (o8.1, o8.2.1, o8.2.2.1, ()) 20).bind fun r9 =>
 bif r9.2 then
 (s_l1Cur_pick r9.1 (w64 (30 + r3.2))).bind fun r10 =>
 (s_l1Cur_among r10.1 [(-1), 1024]).bind fun r11 =>
 bif decide (0 ≤ r10.2) && decide (r10.2 < (o8.2.2.2.length : Int)) then
 some (r11.1, (o8.2.2.2.set (Int.toNat r10.2) r11.2))
 else
 none
 else
 some (r9.1, o8.2.2.2)
 else
 bif false then
 (s_l1Cur_pick (o8.1, o8.2.1, o8.2.2.1, ()) (w64 (30 + r3.2))).bind fun r12 =>
 (s_l1Cur_among r12.1 [(-1), 1024]).bind fun r13 =>
 bif decide (0 ≤ r12.2) && decide (r12.2 < (o8.2.2.2.length : Int)) then
 some (r13.1, (o8.2.2.2.set (Int.toNat r12.2) r13.2))
 else
 none
 else
 some ((o8.1, o8.2.1, o8.2.2.1, ()), o8.2.2.2)
 else
 (loopE (fun (st15 : (List Int) × Int × Int × (List Int)) => (
 bif (decide ((st15.2.2.2.length : Int) < r1.2)) then
 (s_l1Cur_pick (st15.1, st15.2.1, st15.2.2.1, ()) 1024).bind fun r16 =>
 (s_l1Cur_among r16.1 [0, 0, 512, 1, 3, 511, 1023, r16.2]).bind fun r17 =>
 bif decide (List.length st15.2.2.2 + List.length [r17.2] ≤ lim) then
 some (.inl (r17.1.1, r17.1.2.1, r17.1.2.2.1, (st15.2.2.2 ++ [r17.2])))
 else
 none
 else
 some (.inr (st15.1, st15.2.1, st15.2.2.1, st15.2.2.2)) : Option (((List Int) × Int × Int × (List Int)) ⊕ (((List Int) × Int × Int × (List Int)))))) (r2.1.1, r2.1.2.1, r2.1.2.2.1, [])).bind fun o18 =>
 bif (decide (0 < r1.2)) then
 (s_l1Cur_one (o18.1, o18.2.1, o18.2.2.1, ()) 20).bind fun r19 =>
 bif r19.2 then
 (s_l1Cur_pick r19.1 r1.2).bind fun r20 =>
 (s_l1Cur_among r20.1 [(-1), 1024]).bind fun r21 =>
 bif decide (0 ≤ r20.2) && decide (r20.2 < (o18.2.2.2.length : Int)) then
 some (r21.1, (o18.2.2.2.set (Int.toNat r20.2) r21.2))
 else
 none
 else
 some (r19.1, o18.2.2.2)
 else
 bif false then
 (s_l1Cur_pick (o18.1, o18.2.1, o18.2.2.1, ()) r1.2).bind fun r22 =>
 (s_l1Cur_among r22.1 [(-1), 1024]).bind fun r23 =>
 bif decide (0 ≤ r22.2) && decide (r22.2 < (o18.2.2.2.length : Int)) then
 some (r23.1, (o18.2.2.2.set (Int.toNat r22.2) r23.2))
 else
 none
 else
 some ((o18.1, o18.2.1, o18.2.2.1, ()), o18.2.2.2)
def C51 : FnSpec := { ps := [.mbox TGl1Cur], rs := [.own (.slice (.int .i64))], fn := fun x => s_l1Cur_ackScript x }
def E51 : Env := { T := [(3, (.int .i64)), (23, (.slice (.int .i64)))], G := [(43, C43), (52, C52), (74, C74)], ro := [], loops := [(5, { keep := [4, 27, 28], live := [.bx 0 100000 [.pv (.slice (.int .u8)), .pv (.int .i64), .pv (.int .u64)], .own 3 [] 200003 (.int .i64) true], outs := [(.exit 0, [.bx 0 100000 [.pv (.slice (.int .u8)), .pv (.int .i64), .pv (.int .u64)], .own 3 [] 200003 (.int .i64) true])] })], joins := [], forks := [26] }
theorem S51 : Sound Tryz.prog 51 C51 := fun_sound_box (E := E51) ⟨good_T (by kernel_rfl), (good_cons S43 ⟨_, Tryz.func43, by kernel_rfl, by kernel_rfl⟩ (good_cons S52 ⟨_, Tryz.func52, by kernel_rfl, by kernel_rfl⟩ (good_cons S74 ⟨_, Tryz.func74, by kernel_rfl, by kernel_rfl⟩ good_nil))), mixedOk, ins_nil⟩ Tryz.func51 rfl fun _ => by kernel_rfl
def s_DrawArrivedAfter (p_code : List Int) : Option (Int × Int × (List Int) × Int) :=
 (s_l1Cur_partsOf (p_code, 0, 0, ())).bind fun r1 =>
 (s_l1Cur_windowOf r1.1).bind fun r2 =>
 (s_l1Cur_ackScript r2.1).bind fun r3 =>
 (s_l1Cur_among r3.1 [61, (-1)]).bind fun r4 =>
 (s_l1Cur_among r4.1 [0, 1, 2, 3, 5, 12, 60, r4.2]).bind fun r5 =>
 some (r1.2, r2.2, r3.2, r5.2)
def C20 : FnSpec := { ps := [.val (.slice (.int .u8))], rs := [.val (.int .i64), .val (.int .i64), .own (.slice (.int .i64)), .val (.int .i64)], fn := fun x => s_DrawArrivedAfter x }
def E20 : Env := { T := [(23, (.slice (.int .i64))), (85, TGl1Cur)], G := [(49, C49), (50, C50), (51, C51), (52, C52)], ro := [], loops := [], joins := [] }
theorem S20 : Sound Tryz.prog 20 C20 := fun_sound (E := E20) ⟨good_T (by kernel_rfl), (good_cons S49 ⟨_, Tryz.func49, by kernel_rfl, by kernel_rfl⟩ (good_cons S50 ⟨_, Tryz.func50, by kernel_rfl, by kernel_rfl⟩ (good_cons S51 ⟨_, Tryz.func51, by kernel_rfl, by kernel_rfl⟩ (good_cons S52 ⟨_, Tryz.func52, by kernel_rfl, by kernel_rfl⟩ good_nil)))), mixedOk, ins_nil⟩ Tryz.func20 rfl fun _ => by kernel_rfl
def s_DrawStandsAfter (p_code : List Int) : Option (Int × Int × (List Int) × Int) :=
 (s_DrawArrivedAfter p_code).bind fun r1 =>
 some (r1.1, r1.2.1, r1.2.2.1, r1.2.2.2)
def C4 : FnSpec := { ps := [.val (.slice (.int .u8))], rs := [.val (.int .i64), .val (.int .i64), .own (.slice (.int .i64)), .val (.int .i64)], fn := fun x => s_DrawStandsAfter x }
def E4 : Env := { T := [], G := [(20, C20)], ro := [], loops := [], joins := [] }
theorem S4 : Sound Tryz.prog 4 C4 := fun_sound (E := E4) ⟨good_T (by kernel_rfl), (good_cons S20 ⟨_, Tryz.func20, by kernel_rfl, by kernel_rfl⟩ good_nil), mixedOk, ins_nil⟩ Tryz.func4 rfl fun _ => by kernel_rfl
def i_within (p_n : Int) (p_low : Int) (p_high : Int) : Option (Bool) :=
 (bif (decide (p_low ≤ p_n)) then
 some (decide (p_n ≤ p_high))
 else
 some false).bind fun c1 =>
 some c1
def C26 : FnSpec := { ps := [.val (.int .i64), .val (.int .i64), .val (.int .i64)], rs := [.val .bool], fn := fun x => i_within x.1 x.2.1 x.2.2 }
def E26 : Env := { T := [], G := [], ro := [], loops := [], joins := [] }
theorem S26 : Sound Tryz.prog 26 C26 := fun_sound (E := E26) ⟨good_T (by kernel_rfl), good_nil, mixedOk, ins_nil⟩ Tryz.func26 rfl fun _ => by kernel_rfl
def i_allWithin (p_l : List Int) (p_low : Int) (p_high : Int) : Option (Bool) :=
 (loopE (fun (st2 : Int) => (
 bif (decide (st2 < (p_l.length : Int))) then
 (idx p_l st2).bind fun e3 =>
 (i_within e3 p_low p_high).bind fun r4 =>
 bif (!r4) then
 some (.inr (.inr false))
 else
 some (.inl (w64 (st2 + 1)))
 else
 some (.inr (.inl ())) : Option ((Int) ⊕ (Unit ⊕ Bool)))) 0).bind fun o5 =>
 match o5 with
 | .inl _ =>
  some true
 | .inr y7 =>
  some y7
def C27 : FnSpec := { ps := [.val (.slice (.int .i64)), .val (.int .i64), .val (.int .i64)], rs := [.val .bool], fn := fun x => i_allWithin x.1 x.2.1 x.2.2 }
def E27 : Env := { T := [(3, (.int .i64)), (23, (.slice (.int .i64)))], G := [(26, C26)], ro := [], loops := [(2, { keep := [1, 2, 9, 10], live := [.tv 11 (.int .i64)], outs := [(.exit 0, []), (.ret, [.tv 6 .bool])] })], joins := [] }
theorem S27 : Sound Tryz.prog 27 C27 := fun_sound (E := E27) ⟨good_T (by kernel_rfl), (good_cons S26 ⟨_, Tryz.func26, by kernel_rfl, by kernel_rfl⟩ good_nil), mixedOk, ins_nil⟩ Tryz.func27 rfl fun _ => by kernel_rfl
def i_IsAckScript (p_script : List Int) : Option (Bool) :=
 (bif (decide ((p_script.length : Int) ≤ 30)) then
 (i_allWithin p_script 0 1023).bind fun r1 =>
 some r1
 else
 some false).bind fun c2 =>
 some c2
def C53 : FnSpec := { ps := [.val (.slice (.int .i64))], rs := [.val .bool], fn := fun x => i_IsAckScript x }
def E53 : Env := { T := [(23, (.slice (.int .i64)))], G := [(27, C27)], ro := [], loops := [], joins := [] }
theorem S53 : Sound Tryz.prog 53 C53 := fun_sound (E := E53) ⟨good_T (by kernel_rfl), (good_cons S27 ⟨_, Tryz.func27, by kernel_rfl, by kernel_rfl⟩ good_nil), mixedOk, ins_nil⟩ Tryz.func53 rfl fun _ => by kernel_rfl
def i_roundsAsked (p_n : Int) (p_w : Int) (p_script : List Int) (p_k : Int) : Option (Bool) :=
 (i_within p_n 1 9).bind fun r1 =>
 (bif r1 then
 (i_within p_w 1 9).bind fun r2 =>
 some r2
 else
 some false).bind fun c3 =>
 (bif c3 then
 (i_IsAckScript p_script).bind fun r4 =>
 some r4
 else
 some false).bind fun c5 =>
 (bif c5 then
 (i_within p_k 0 60).bind fun r6 =>
 some r6
 else
 some false).bind fun c7 =>
 some c7
def C21 : FnSpec := { ps := [.val (.int .i64), .val (.int .i64), .val (.slice (.int .i64)), .val (.int .i64)], rs := [.val .bool], fn := fun x => i_roundsAsked x.1 x.2.1 x.2.2.1 x.2.2.2 }
def E21 : Env := { T := [], G := [(26, C26), (53, C53)], ro := [], loops := [], joins := [] }
theorem S21 : Sound Tryz.prog 21 C21 := fun_sound (E := E21) ⟨good_T (by kernel_rfl), (good_cons S26 ⟨_, Tryz.func26, by kernel_rfl, by kernel_rfl⟩ (good_cons S53 ⟨_, Tryz.func53, by kernel_rfl, by kernel_rfl⟩ good_nil)), mixedOk, ins_nil⟩ Tryz.func21 rfl fun _ => by kernel_rfl
def i_setBits (p_n : Int) : Option ((List Int)) :=
 (loopE (fun (st2 : (List Int) × Int) => (
 bif decide (0 ≤ st2.2) then
 bif (decide (0 < (shiftI .shr .u64 p_n st2.2))) then
 bif decide (0 ≤ st2.2) then
 bif (decide ((bitsI .and .u64 (shiftI .shr .u64 p_n st2.2) 1) = 1)) then
 bif decide (List.length st2.1 + List.length [st2.2] ≤ lim) then
 some (.inl ((st2.1 ++ [st2.2]), (w64 (st2.2 + 1))))
 else
 none
 else
 some (.inl (st2.1, (w64 (st2.2 + 1))))
 else
 none
 else
 some (.inr st2.1)
 else
 none : Option (((List Int) × Int) ⊕ ((List Int))))) ([], 0)).bind fun o3 =>
 some o3
def C22 : FnSpec := { ps := [.val (.int .u64)], rs := [.own (.slice (.int .i64))], fn := fun x => i_setBits x }
def E22 : Env := { T := [(23, (.slice (.int .i64)))], G := [], ro := [], loops := [(3, { keep := [0], live := [.own 3 [] 200003 (.int .i64) true, .tv 4 (.int .i64)], outs := [(.exit 0, [.own 3 [] 200003 (.int .i64) true])] })], joins := [] }
theorem S22 : Sound Tryz.prog 22 C22 := fun_sound (E := E22) ⟨good_T (by kernel_rfl), good_nil, mixedOk, ins_nil⟩ Tryz.func22 rfl fun _ => by kernel_rfl
def i_runRounds (p_n : Int) (p_w : Int) (p_script : List Int) (p_k : Int) : Option (GackRun) :=
 bif decide (0 ≤ p_n) then
 (loopE (fun (st2 : Int × Int × Int × Int × Int × Int × Int × Int × Int × Int) => (
 (bif (!decide (st2.2.2.2.2.2.2.1 = (IntKind.u64.wrap ((shiftI .shl .u64 1 p_n) - 1)))) then
 some (decide (st2.2.2.2.2.2.2.2.1 < p_k))
 else
 some false).bind fun c3 =>
 bif c3 then
 (bif (decide (st2.2.2.2.2.2.2.2.1 < (p_script.length : Int))) then
 (idx p_script st2.2.2.2.2.2.2.2.1).bind fun e4 =>
 some (st2.1, st2.2.1, st2.2.2.1, st2.2.2.2.1, st2.2.2.2.2.1, st2.2.2.2.2.2.1, st2.2.2.2.2.2.2.1, st2.2.2.2.2.2.2.2.1, st2.2.2.2.2.2.2.2.2.1, st2.2.2.2.2.2.2.2.2.2, e4)
 else
 some (st2.1, st2.2.1, st2.2.2.1, st2.2.2.2.1, st2.2.2.2.2.1, st2.2.2.2.2.2.1, st2.2.2.2.2.2.2.1, st2.2.2.2.2.2.2.2.1, st2.2.2.2.2.2.2.2.2.1, st2.2.2.2.2.2.2.2.2.2, 0)).bind fun j5 =>
 (loopE (fun (st7 : Int × Int × Int × Int × Int × Int × Int × Int × Int × Int × Int × Int × Int) => (
 (bif (decide (st7.2.2.2.2.2.2.2.2.2.2.2.1 < p_n)) then
 some (decide (0 < st7.2.2.2.2.2.2.2.2.2.2.2.2))
 else
 some false).bind fun c8 =>
 bif c8 then
 bif decide (0 ≤ st7.2.2.2.2.2.2.2.2.2.2.2.1) then
 bif (decide ((bitsI .and .u64 (shiftI .shr .u64 st7.2.2.2.2.2.2.1 st7.2.2.2.2.2.2.2.2.2.2.2.1) 1) = 1)) then
 some (.inl (st7.1, st7.2.1, st7.2.2.1, st7.2.2.2.1, st7.2.2.2.2.1, st7.2.2.2.2.2.1, st7.2.2.2.2.2.2.1, st7.2.2.2.2.2.2.2.1, st7.2.2.2.2.2.2.2.2.1, st7.2.2.2.2.2.2.2.2.2.1, st7.2.2.2.2.2.2.2.2.2.2.1, (w64 (st7.2.2.2.2.2.2.2.2.2.2.2.1 + 1)), st7.2.2.2.2.2.2.2.2.2.2.2.2))
 else
 bif decide (0 ≤ st7.2.2.2.2.2.2.2.2.2.2.2.1) then
 bif (decide ((bitsI .and .i64 (shiftI .shr .i64 j5.2.2.2.2.2.2.2.2.2.2 st7.2.2.2.2.2.2.2.2.2.2.2.1) 1) = 1)) then
 some (.inl (st7.1, st7.2.1, st7.2.2.1, st7.2.2.2.1, st7.2.2.2.2.1, st7.2.2.2.2.2.1, st7.2.2.2.2.2.2.1, st7.2.2.2.2.2.2.2.1, (w64 (st7.2.2.2.2.2.2.2.2.1 + 1)), st7.2.2.2.2.2.2.2.2.2.1, st7.2.2.2.2.2.2.2.2.2.2.1, (w64 (st7.2.2.2.2.2.2.2.2.2.2.2.1 + 1)), (w64 (st7.2.2.2.2.2.2.2.2.2.2.2.2 - 1))))
 else
 bif decide (0 ≤ st7.2.2.2.2.2.2.2.2.2.2.2.1) then
 bif (decide ((bitsI .and .u64 (shiftI .shr .u64 st7.2.2.2.2.2.1 st7.2.2.2.2.2.2.2.2.2.2.2.1) 1) = 1)) then
 bif decide (0 ≤ st7.2.2.2.2.2.2.2.2.2.2.2.1) then
 some (.inl (st7.1, st7.2.1, st7.2.2.1, st7.2.2.2.1, st7.2.2.2.2.1, st7.2.2.2.2.2.1, st7.2.2.2.2.2.2.1, st7.2.2.2.2.2.2.2.1, (w64 (st7.2.2.2.2.2.2.2.2.1 + 1)), (w64 (st7.2.2.2.2.2.2.2.2.2.1 + 1)), (bitsI .or .u64 st7.2.2.2.2.2.2.2.2.2.2.1 (shiftI .shl .u64 1 st7.2.2.2.2.2.2.2.2.2.2.2.1)), (w64 (st7.2.2.2.2.2.2.2.2.2.2.2.1 + 1)), (w64 (st7.2.2.2.2.2.2.2.2.2.2.2.2 - 1))))
 else
 none
 else
 bif decide (0 ≤ st7.2.2.2.2.2.2.2.2.2.2.2.1) then
 some (.inl (st7.1, st7.2.1, st7.2.2.1, st7.2.2.2.1, st7.2.2.2.2.1, st7.2.2.2.2.2.1, st7.2.2.2.2.2.2.1, st7.2.2.2.2.2.2.2.1, (w64 (st7.2.2.2.2.2.2.2.2.1 + 1)), st7.2.2.2.2.2.2.2.2.2.1, (bitsI .or .u64 st7.2.2.2.2.2.2.2.2.2.2.1 (shiftI .shl .u64 1 st7.2.2.2.2.2.2.2.2.2.2.2.1)), (w64 (st7.2.2.2.2.2.2.2.2.2.2.2.1 + 1)), (w64 (st7.2.2.2.2.2.2.2.2.2.2.2.2 - 1))))
 else
 none
 else
 none
 else
 none
 else
 none
 else
 some (.inr (st7.1, st7.2.1, st7.2.2.1, st7.2.2.2.1, st7.2.2.2.2.1, st7.2.2.2.2.2.1, st7.2.2.2.2.2.2.1, st7.2.2.2.2.2.2.2.1, st7.2.2.2.2.2.2.2.2.1, st7.2.2.2.2.2.2.2.2.2.1, st7.2.2.2.2.2.2.2.2.2.2.1)) : Option ((Int × Int × Int × Int × Int × Int × Int × Int × Int × Int × Int × Int × Int) ⊕ ((Int × Int × Int × Int × Int × Int × Int × Int × Int × Int × Int))))) (j5.1, j5.2.1, j5.2.2.1, j5.2.2.2.1, j5.2.2.2.2.1, j5.2.2.2.2.2.1, j5.2.2.2.2.2.2.1, j5.2.2.2.2.2.2.2.1, j5.2.2.2.2.2.2.2.2.1, j5.2.2.2.2.2.2.2.2.2.1, j5.2.2.2.2.2.1, 0, p_w)).bind fun o9 =>
 bif (decide ((bitsI .and .i64 j5.2.2.2.2.2.2.2.2.2.2 512) = 0)) then
 some (.inl (o9.1, o9.2.1, o9.2.2.1, o9.2.2.2.1, o9.2.2.2.2.1, o9.2.2.2.2.2.2.2.2.2.2, o9.2.2.2.2.2.2.2.2.2.2, (w64 (o9.2.2.2.2.2.2.2.1 + 1)), o9.2.2.2.2.2.2.2.2.1, o9.2.2.2.2.2.2.2.2.2.1))
 else
 some (.inl (o9.1, o9.2.1, o9.2.2.1, o9.2.2.2.1, o9.2.2.2.2.1, o9.2.2.2.2.2.2.2.2.2.2, o9.2.2.2.2.2.2.1, (w64 (o9.2.2.2.2.2.2.2.1 + 1)), o9.2.2.2.2.2.2.2.2.1, o9.2.2.2.2.2.2.2.2.2.1))
 else
 some (.inr (st2.1, st2.2.1, st2.2.2.1, st2.2.2.2.1, st2.2.2.2.2.1, st2.2.2.2.2.2.1, st2.2.2.2.2.2.2.1, st2.2.2.2.2.2.2.2.1, st2.2.2.2.2.2.2.2.2.1, st2.2.2.2.2.2.2.2.2.2)) : Option ((Int × Int × Int × Int × Int × Int × Int × Int × Int × Int) ⊕ ((Int × Int × Int × Int × Int × Int × Int × Int × Int × Int))))) (0, 0, 0, 0, 0, 0, 0, 0, 0, 0)).bind fun o10 =>
 some (o10.2.2.2.2.2.1, o10.2.2.2.2.2.2.1, o10.2.2.2.2.2.2.2.1, o10.2.2.2.2.2.2.2.2.1, o10.2.2.2.2.2.2.2.2.2, ())
 else
 none
def C23 : FnSpec := { ps := [.val (.int .i64), .val (.int .i64), .val (.slice (.int .i64)), .val (.int .i64)], rs := [.val TGackRun], fn := fun x => i_runRounds x.1 x.2.1 x.2.2.1 x.2.2.2 }
def E23 : Env := { T := [(3, (.int .i64)), (23, (.slice (.int .i64))), (55, (.int .u64)), (57, TGackRun)], G := [], ro := [], loops := [(3, { keep := [0, 1, 2, 3, 10], live := [.bx 8 128 [.pv (.int .u64), .pv (.int .u64), .pv (.int .i64), .pv (.int .i64), .pv (.int .i64)], .bx 9 144 [.pv (.int .u64), .pv (.int .u64), .pv (.int .i64), .pv (.int .i64), .pv (.int .i64)]], outs := [(.exit 0, [.bx 8 128 [.pv (.int .u64), .pv (.int .u64), .pv (.int .i64), .pv (.int .i64), .pv (.int .i64)], .bx 9 144 [.pv (.int .u64), .pv (.int .u64), .pv (.int .i64), .pv (.int .i64), .pv (.int .i64)]])] }), (10, { keep := [0, 1, 2, 3, 10, 11, 23, 24, 25, 26], live := [.bx 8 128 [.pv (.int .u64), .pv (.int .u64), .pv (.int .i64), .pv (.int .i64), .pv (.int .i64)], .bx 9 144 [.pv (.int .u64), .pv (.int .u64), .pv (.int .i64), .pv (.int .i64), .pv (.int .i64)], .tv 12 (.int .u64), .tv 13 (.int .i64), .tv 14 (.int .i64)], outs := [(.exit 2, [.bx 8 128 [.pv (.int .u64), .pv (.int .u64), .pv (.int .i64), .pv (.int .i64), .pv (.int .i64)], .bx 9 144 [.pv (.int .u64), .pv (.int .u64), .pv (.int .i64), .pv (.int .i64), .pv (.int .i64)], .tv 12 (.int .u64)])] })], joins := [(8, { keep := [0, 1, 2, 3, 10], live := [], outs := [(.normal, [.bx 8 128 [.pv (.int .u64), .pv (.int .u64), .pv (.int .i64), .pv (.int .i64), .pv (.int .i64)], .bx 9 144 [.pv (.int .u64), .pv (.int .u64), .pv (.int .i64), .pv (.int .i64), .pv (.int .i64)], .tv 11 (.int .i64)])] })] }
theorem S23 : Sound Tryz.prog 23 C23 := fun_sound (E := E23) ⟨good_T (by kernel_rfl), good_nil, mixedOk, ins_nil⟩ Tryz.func23 rfl fun _ => by kernel_rfl
def i_ArrivedAfter (p_n : Int) (p_w : Int) (p_script : List Int) (p_k : Int) : Option ((List Int) × Bool) :=
 (i_roundsAsked p_n p_w p_script p_k).bind fun r1 =>
 bif (!r1) then
 some ([], false)
 else
 (i_runRounds p_n p_w p_script p_k).bind fun r2 =>
 (i_setBits r2.1).bind fun r3 =>
 some (r3, true)
def C5 : FnSpec := { ps := [.val (.int .i64), .val (.int .i64), .val (.slice (.int .i64)), .val (.int .i64)], rs := [.own (.slice (.int .i64)), .val .bool], fn := fun x => i_ArrivedAfter x.1 x.2.1 x.2.2.1 x.2.2.2 }
def E5 : Env := { T := [(57, TGackRun)], G := [(21, C21), (22, C22), (23, C23)], ro := [], loops := [], joins := [] }
theorem S5 : Sound Tryz.prog 5 C5 := fun_sound (E := E5) ⟨good_T (by kernel_rfl), (good_cons S21 ⟨_, Tryz.func21, by kernel_rfl, by kernel_rfl⟩ (good_cons S22 ⟨_, Tryz.func22, by kernel_rfl, by kernel_rfl⟩ (good_cons S23 ⟨_, Tryz.func23, by kernel_rfl, by kernel_rfl⟩ good_nil))), mixedOk, ins_nil⟩ Tryz.func5 rfl fun _ => by kernel_rfl
def s_l1In (p_n : Int) (p_lo : Int) (p_hi : Int) : Option (Bool) :=
 (bif (decide (p_lo ≤ p_n)) then
 some (decide (p_n ≤ p_hi))
 else
 some false).bind fun c1 =>
 some c1
def C30 : FnSpec := { ps := [.val (.int .i64), .val (.int .i64), .val (.int .i64)], rs := [.val .bool], fn := fun x => s_l1In x.1 x.2.1 x.2.2 }
def E30 : Env := { T := [], G := [], ro := [], loops := [], joins := [] }
theorem S30 : Sound Tryz.prog 30 C30 := fun_sound (E := E30) ⟨good_T (by kernel_rfl), good_nil, mixedOk, ins_nil⟩ Tryz.func30 rfl fun _ => by kernel_rfl
def s_l1All (p_l : List Int) (p_lo : Int) (p_hi : Int) : Option (Bool) :=
 (loopE (fun (st2 : Int) => (
 bif (decide (st2 < (p_l.length : Int))) then
 (idx p_l st2).bind fun e3 =>
 (s_l1In e3 p_lo p_hi).bind fun r4 =>
 bif (!r4) then
 some (.inr (.inr false))
 else
 some (.inl (w64 (st2 + 1)))
 else
 some (.inr (.inl ())) : Option ((Int) ⊕ (Unit ⊕ Bool)))) 0).bind fun o5 =>
 match o5 with
 | .inl _ =>
  some true
 | .inr y7 =>
  some y7
def C31 : FnSpec := { ps := [.val (.slice (.int .i64)), .val (.int .i64), .val (.int .i64)], rs := [.val .bool], fn := fun x => s_l1All x.1 x.2.1 x.2.2 }
def E31 : Env := { T := [(3, (.int .i64)), (23, (.slice (.int .i64)))], G := [(30, C30)], ro := [], loops := [(2, { keep := [1, 2, 9, 10], live := [.tv 11 (.int .i64)], outs := [(.exit 0, []), (.ret, [.tv 6 .bool])] })], joins := [] }
theorem S31 : Sound Tryz.prog 31 C31 := fun_sound (E := E31) ⟨good_T (by kernel_rfl), (good_cons S30 ⟨_, Tryz.func30, by kernel_rfl, by kernel_rfl⟩ good_nil), mixedOk, ins_nil⟩ Tryz.func31 rfl fun _ => by kernel_rfl
def s_akScript (p_script : List Int) : Option (Bool) :=
 (bif (decide ((p_script.length : Int) ≤ 30)) then
 (s_l1All p_script 0 1023).bind fun r1 =>
 some r1
 else
 some false).bind fun c2 =>
 some c2
def C80 : FnSpec := { ps := [.val (.slice (.int .i64))], rs := [.val .bool], fn := fun x => s_akScript x }
def E80 : Env := { T := [(23, (.slice (.int .i64)))], G := [(31, C31)], ro := [], loops := [], joins := [] }
theorem S80 : Sound Tryz.prog 80 C80 := fun_sound (E := E80) ⟨good_T (by kernel_rfl), (good_cons S31 ⟨_, Tryz.func31, by kernel_rfl, by kernel_rfl⟩ good_nil), mixedOk, ins_nil⟩ Tryz.func80 rfl fun _ => by kernel_rfl
def s_akGood (p_n : Int) (p_w : Int) (p_script : List Int) : Option (Bool) :=
 (s_l1In p_n 1 9).bind fun r1 =>
 (bif r1 then
 (s_l1In p_w 1 9).bind fun r2 =>
 some r2
 else
 some false).bind fun c3 =>
 (bif c3 then
 (s_akScript p_script).bind fun r4 =>
 some r4
 else
 some false).bind fun c5 =>
 some c5
def C54 : FnSpec := { ps := [.val (.int .i64), .val (.int .i64), .val (.slice (.int .i64))], rs := [.val .bool], fn := fun x => s_akGood x.1 x.2.1 x.2.2 }
def E54 : Env := { T := [], G := [(30, C30), (80, C80)], ro := [], loops := [], joins := [] }
theorem S54 : Sound Tryz.prog 54 C54 := fun_sound (E := E54) ⟨good_T (by kernel_rfl), (good_cons S30 ⟨_, Tryz.func30, by kernel_rfl, by kernel_rfl⟩ (good_cons S80 ⟨_, Tryz.func80, by kernel_rfl, by kernel_rfl⟩ good_nil)), mixedOk, ins_nil⟩ Tryz.func54 rfl fun _ => by kernel_rfl
def s_akAsked (p_n : Int) (p_w : Int) (p_script : List Int) (p_k : Int) : Option (Bool) :=
 (s_akGood p_n p_w p_script).bind fun r1 =>
 (bif r1 then
 (s_l1In p_k 0 60).bind fun r2 =>
 some r2
 else
 some false).bind fun c3 =>
 some c3
def C24 : FnSpec := { ps := [.val (.int .i64), .val (.int .i64), .val (.slice (.int .i64)), .val (.int .i64)], rs := [.val .bool], fn := fun x => s_akAsked x.1 x.2.1 x.2.2.1 x.2.2.2 }
def E24 : Env := { T := [], G := [(30, C30), (54, C54)], ro := [], loops := [], joins := [] }
theorem S24 : Sound Tryz.prog 24 C24 := fun_sound (E := E24) ⟨good_T (by kernel_rfl), (good_cons S30 ⟨_, Tryz.func30, by kernel_rfl, by kernel_rfl⟩ (good_cons S54 ⟨_, Tryz.func54, by kernel_rfl, by kernel_rfl⟩ good_nil)), mixedOk, ins_nil⟩ Tryz.func24 rfl fun _ => by kernel_rfl
def s_l1Own_w (p_l : List Int) : Option ((List Int)) :=
 bif decide (List.length p_l ≤ lim) then
 some p_l
 else
 none
def C46w : FnSpec := { ps := [.val (.slice (.int .i64))], rs := [.val (.slice (.int .i64))], fn := fun x => s_l1Own_w x }
def E46w : Env := { T := [(23, (.slice (.int .i64)))], G := [], ro := [], loops := [], joins := [] }
theorem S46w : Sound Tryz.prog 46 C46w := fun_sound (E := E46w) ⟨good_T (by kernel_rfl), good_nil, mixedOk, ins_nil⟩ Tryz.func46 rfl fun _ => by kernel_rfl
def s_l1Has (p_l : List Int) (p_n : Int) : Option (Bool) :=
 (loopE (fun (st2 : Int) => (
 bif (decide (st2 < (p_l.length : Int))) then
 (idx p_l st2).bind fun e3 =>
 bif (decide (e3 = p_n)) then
 some (.inr (.inr true))
 else
 some (.inl (w64 (st2 + 1)))
 else
 some (.inr (.inl ())) : Option ((Int) ⊕ (Unit ⊕ Bool)))) 0).bind fun o4 =>
 match o4 with
 | .inl _ =>
  some false
 | .inr y6 =>
  some y6
def C81 : FnSpec := { ps := [.val (.slice (.int .i64)), .val (.int .i64)], rs := [.val .bool], fn := fun x => s_l1Has x.1 x.2 }
def E81 : Env := { T := [(3, (.int .i64)), (23, (.slice (.int .i64)))], G := [], ro := [], loops := [(2, { keep := [1, 7, 8], live := [.tv 9 (.int .i64)], outs := [(.exit 0, []), (.ret, [.tv 4 .bool])] })], joins := [] }
theorem S81 : Sound Tryz.prog 81 C81 := fun_sound (E := E81) ⟨good_T (by kernel_rfl), good_nil, mixedOk, ins_nil⟩ Tryz.func81 rfl fun _ => by kernel_rfl
def s_l1Put (p_l : List Int) (p_n : Int) : Option ((List Int)) :=
 (loopE (fun (st2 : Int) => (
 (bif (decide (st2 < (p_l.length : Int))) then
 (idx p_l st2).bind fun e3 =>
 some (decide (e3 < p_n))
 else
 some false).bind fun c4 =>
 bif c4 then
 some (.inl (w64 (st2 + 1)))
 else
 some (.inr st2) : Option ((Int) ⊕ (Int)))) 0).bind fun o5 =>
 (bif (decide (o5 < (p_l.length : Int))) then
 (idx p_l o5).bind fun e6 =>
 some (decide (e6 = p_n))
 else
 some false).bind fun c7 =>
 bif c7 then
 some p_l
 else
 (sub p_l 0 o5).bind fun l8 =>
 bif decide (List.length l8 ≤ lim) then
 bif decide (List.length l8 + List.length [p_n] ≤ lim) then
 (sub p_l o5 (p_l.length : Int)).bind fun l9 =>
 bif decide (List.length (l8 ++ [p_n]) + List.length l9 ≤ lim) then
 some ((l8 ++ [p_n]) ++ l9)
 else
 none
 else
 none
 else
 none
def C82 : FnSpec := { ps := [.val (.slice (.int .i64)), .val (.int .i64)], rs := [.val (.slice (.int .i64))], fn := fun x => s_l1Put x.1 x.2 }
def E82 : Env := { T := [(3, (.int .i64)), (23, (.slice (.int .i64)))], G := [], ro := [], loops := [(2, { keep := [0, 1, 26, 27, 28, 29, 30, 31], live := [.tv 5 (.int .i64)], outs := [(.exit 0, [.tv 5 (.int .i64)])] })], joins := [] }
theorem S82 : Sound Tryz.prog 82 C82 := fun_sound (E := E82) ⟨good_T (by kernel_rfl), good_nil, mixedOk, ins_nil⟩ Tryz.func82 rfl fun _ => by kernel_rfl
def s_akState_round (p_x : GakState) (p_n : Int) (p_w : Int) (p_lost : Int) : Option (GakState) :=
 (loopE (fun (st2 : (List Int) × (List Int) × Int × Int × Int × Int × Int) => (
 (bif (decide (st2.2.2.2.2.2.2 < p_n)) then
 some (decide (st2.2.2.2.2.2.1 < p_w))
 else
 some false).bind fun c3 =>
 bif c3 then
 (s_l1Has st2.2.1 st2.2.2.2.2.2.2).bind fun r4 =>
 bif r4 then
 some (.inl (st2.1, st2.2.1, st2.2.2.1, st2.2.2.2.1, st2.2.2.2.2.1, st2.2.2.2.2.2.1, (w64 (st2.2.2.2.2.2.2 + 1))))
 else
 bif decide (0 ≤ (IntKind.u64.wrap st2.2.2.2.2.2.2)) then
 bif (decide ((bitsI .and .i64 (shiftI .shr .i64 p_lost (IntKind.u64.wrap st2.2.2.2.2.2.2)) 1) = 1)) then
 some (.inl (st2.1, st2.2.1, st2.2.2.1, st2.2.2.2.1, st2.2.2.2.2.1, (w64 (st2.2.2.2.2.2.1 + 1)), (w64 (st2.2.2.2.2.2.2 + 1))))
 else
 (s_l1Has st2.1 st2.2.2.2.2.2.2).bind fun r5 =>
 bif r5 then
 (s_l1Put st2.1 st2.2.2.2.2.2.2).bind fun r6 =>
 some (.inl (r6, st2.2.1, st2.2.2.1, st2.2.2.2.1, (w64 (st2.2.2.2.2.1 + 1)), (w64 (st2.2.2.2.2.2.1 + 1)), (w64 (st2.2.2.2.2.2.2 + 1))))
 else
 (s_l1Put st2.1 st2.2.2.2.2.2.2).bind fun r7 =>
 some (.inl (r7, st2.2.1, st2.2.2.1, st2.2.2.2.1, st2.2.2.2.2.1, (w64 (st2.2.2.2.2.2.1 + 1)), (w64 (st2.2.2.2.2.2.2 + 1))))
 else
 none
 else
 some (.inr (st2.1, st2.2.1, st2.2.2.1, st2.2.2.2.1, st2.2.2.2.2.1, st2.2.2.2.2.2.1)) : Option (((List Int) × (List Int) × Int × Int × Int × Int × Int) ⊕ (((List Int) × (List Int) × Int × Int × Int × Int))))) (p_x.1, p_x.2.1, p_x.2.2.1, p_x.2.2.2.1, p_x.2.2.2.2.1, 0, 0)).bind fun o8 =>
 bif (decide (p_lost < 512)) then
 (s_l1Own_w o8.1).bind fun r9 =>
 some (o8.1, r9, (w64 (o8.2.2.1 + 1)), (w64 (o8.2.2.2.1 + o8.2.2.2.2.2)), o8.2.2.2.2.1, ())
 else
 some (o8.1, o8.2.1, (w64 (o8.2.2.1 + 1)), (w64 (o8.2.2.2.1 + o8.2.2.2.2.2)), o8.2.2.2.2.1, ())
def C55 : FnSpec := { ps := [.mbox TGakState, .val (.int .i64), .val (.int .i64), .val (.int .i64)], rs := [], fn := fun x => s_akState_round x.1 x.2.1 x.2.2.1 x.2.2.2 }
def E55 : Env := { T := [(3, (.int .i64)), (23, (.slice (.int .i64))), (55, (.int .u64)), (60, TGakState)], G := [(46, C46w), (81, C81), (82, C82)], ro := [], loops := [(2, { keep := [1, 2, 3], live := [.bx 0 100000 [.pv (.slice (.int .i64)), .pv (.slice (.int .i64)), .pv (.int .i64), .pv (.int .i64), .pv (.int .i64)], .tv 8 (.int .i64), .tv 9 (.int .i64)], outs := [(.exit 0, [.bx 0 100000 [.pv (.slice (.int .i64)), .pv (.slice (.int .i64)), .pv (.int .i64), .pv (.int .i64), .pv (.int .i64)], .tv 8 (.int .i64)])] })], joins := [] }
theorem S55 : Sound Tryz.prog 55 C55 := fun_sound_box (E := E55) ⟨good_T (by kernel_rfl), (good_cons S46w ⟨_, Tryz.func46, by kernel_rfl, by kernel_rfl⟩ (good_cons S81 ⟨_, Tryz.func81, by kernel_rfl, by kernel_rfl⟩ (good_cons S82 ⟨_, Tryz.func82, by kernel_rfl, by kernel_rfl⟩ good_nil))), mixedOk, ins_nil⟩ Tryz.func55 rfl fun _ => by kernel_rfl
def s_akRun (p_n : Int) (p_w : Int) (p_script : List Int) (p_k : Int) : Option (GakState) :=
 (loopE (fun (st2 : (List Int) × (List Int) × Int × Int × Int) => (
 (bif (decide (st2.2.2.1 < p_k)) then
 some (decide ((st2.2.1.length : Int) < p_n))
 else
 some false).bind fun c3 =>
 bif c3 then
 bif (decide (st2.2.2.1 < (p_script.length : Int))) then
 (idx p_script st2.2.2.1).bind fun e4 =>
 (s_akState_round (st2.1, st2.2.1, st2.2.2.1, st2.2.2.2.1, st2.2.2.2.2, ()) p_n p_w e4).bind fun r5 =>
 some (.inl (r5.1, r5.2.1, r5.2.2.1, r5.2.2.2.1, r5.2.2.2.2.1))
 else
 (s_akState_round (st2.1, st2.2.1, st2.2.2.1, st2.2.2.2.1, st2.2.2.2.2, ()) p_n p_w 0).bind fun r6 =>
 some (.inl (r6.1, r6.2.1, r6.2.2.1, r6.2.2.2.1, r6.2.2.2.2.1))
 else
 some (.inr (st2.1, st2.2.1, st2.2.2.1, st2.2.2.2.1, st2.2.2.2.2)) : Option (((List Int) × (List Int) × Int × Int × Int) ⊕ (((List Int) × (List Int) × Int × Int × Int))))) ([], [], 0, 0, 0)).bind fun o7 =>
 some (o7.1, o7.2.1, o7.2.2.1, o7.2.2.2.1, o7.2.2.2.2, ())
def C25 : FnSpec := { ps := [.val (.int .i64), .val (.int .i64), .val (.slice (.int .i64)), .val (.int .i64)], rs := [.rp TGakState], fn := fun x => s_akRun x.1 x.2.1 x.2.2.1 x.2.2.2 }
def E25 : Env := { T := [(3, (.int .i64)), (23, (.slice (.int .i64))), (60, TGakState)], G := [(55, C55)], ro := [], loops := [(2, { keep := [0, 1, 2, 3], live := [.bx 9 192 [.pv (.slice (.int .i64)), .pv (.slice (.int .i64)), .pv (.int .i64), .pv (.int .i64), .pv (.int .i64)]], outs := [(.exit 0, [.bx 9 192 [.pv (.slice (.int .i64)), .pv (.slice (.int .i64)), .pv (.int .i64), .pv (.int .i64), .pv (.int .i64)]])] })], joins := [], preb := [(0, [(192, TGakState)]), (7, [(192, TGakState)])] }
theorem S25 : Sound Tryz.prog 25 C25 := fun_sound (E := E25) ⟨good_T (by kernel_rfl), (good_cons S55 ⟨_, Tryz.func55, by kernel_rfl, by kernel_rfl⟩ good_nil), mixedOk, ins_nil⟩ Tryz.func25 rfl fun _ => by kernel_rfl
def s_ArrivedAfter (p_n : Int) (p_w : Int) (p_script : List Int) (p_k : Int) : Option ((List Int) × Bool) :=
 (s_akAsked p_n p_w p_script p_k).bind fun r1 =>
 bif (!r1) then
 some ([], false)
 else
 (s_akRun p_n p_w p_script p_k).bind fun r2 =>
 some (r2.1, true)
def C6 : FnSpec := { ps := [.val (.int .i64), .val (.int .i64), .val (.slice (.int .i64)), .val (.int .i64)], rs := [.val (.slice (.int .i64)), .val .bool], fn := fun x => s_ArrivedAfter x.1 x.2.1 x.2.2.1 x.2.2.2 }
def E6 : Env := { T := [(23, (.slice (.int .i64))), (60, TGakState)], G := [(24, C24), (25, C25)], ro := [], loops := [], joins := [] }
theorem S6 : Sound Tryz.prog 6 C6 := fun_sound (E := E6) ⟨good_T (by kernel_rfl), (good_cons S24 ⟨_, Tryz.func24, by kernel_rfl, by kernel_rfl⟩ (good_cons S25 ⟨_, Tryz.func25, by kernel_rfl, by kernel_rfl⟩ good_nil)), mixedOk, ins_nil⟩ Tryz.func6 rfl fun _ => by kernel_rfl
def l_qInts (p_a : List Int) (p_b : List Int) : Option (Bool) :=
 bif (!decide ((p_a.length : Int) = (p_b.length : Int))) then
 some false
 else
 (loopE (fun (st2 : Int) => (
 bif (decide (st2 < (p_a.length : Int))) then
 (idx p_a st2).bind fun e3 =>
 (idx p_b st2).bind fun e4 =>
 bif (!decide (e3 = e4)) then
 some (.inr (.inr false))
 else
 some (.inl (w64 (st2 + 1)))
 else
 some (.inr (.inl ())) : Option ((Int) ⊕ (Unit ⊕ Bool)))) 0).bind fun o5 =>
 match o5 with
 | .inl _ =>
  some true
 | .inr y7 =>
  some y7
def C7 : FnSpec := { ps := [.val (.slice (.int .i64)), .val (.slice (.int .i64))], rs := [.val .bool], fn := fun x => l_qInts x.1 x.2 }
def E7 : Env := { T := [(3, (.int .i64)), (23, (.slice (.int .i64)))], G := [], ro := [], loops := [(4, { keep := [0, 1, 12], live := [.tv 13 (.int .i64)], outs := [(.exit 0, []), (.ret, [.tv 4 .bool])] })], joins := [] }
theorem S7 : Sound Tryz.prog 7 C7 := fun_sound (E := E7) ⟨good_T (by kernel_rfl), good_nil, mixedOk, ins_nil⟩ Tryz.func7 rfl fun _ => by kernel_rfl
def slices_Clone_int (p_s : List Int) : Option ((List Int)) :=
 bif List.isEmpty p_s then
 bothSame (
 bif true then
 some []
 else
 bif decide (List.length p_s ≤ lim) then
 some p_s
 else
 none)
 (
 bif false then
 some []
 else
 bif decide (List.length p_s ≤ lim) then
 some p_s
 else
 none)
 else
 bif false then
 some []
 else
 bif decide (List.length p_s ≤ lim) then
 some p_s
 else
 none
def C28 : FnSpec := { ps := [.val (.slice (.int .i64))], rs := [.own (.slice (.int .i64))], fn := fun x => slices_Clone_int x }
def E28 : Env := { T := [(23, (.slice (.int .i64)))], G := [], ro := [], loops := [], joins := [] }
theorem S28 : Sound Tryz.prog 28 C28 := fun_sound (E := E28) ⟨good_T (by kernel_rfl), good_nil, mixedOk, ins_nil⟩ Tryz.func28 rfl fun _ => by kernel_rfl
def i_SplitMessage (p_message : Int) (p_signals : List Int) (p_size : Int) : Option ((List GPacket) × Bool) :=
 (i_within p_message 1 999).bind fun r1 =>
 (bif (!r1) then
 some true
 else
 (i_within p_size 1 8).bind fun r2 =>
 some (!r2)).bind fun c3 =>
 (bif c3 then
 some true
 else
 some (decide ((p_signals.length : Int) = 0))).bind fun c4 =>
 (bif c4 then
 some true
 else
 (i_allWithin p_signals 1 60).bind fun r5 =>
 some (!r5)).bind fun c6 =>
 bif c6 then
 some ([], false)
 else
 bif (!decide (p_size = 0)) then
 bif (decide (9 < (w64 (Int.tdiv (w64 ((w64 ((p_signals.length : Int) + p_size)) - 1)) p_size)))) then
 some ([], false)
 else
 (loopE (fun (st8 : (List GPacket) × Int) => (
 bif (decide (st8.2 < (w64 (Int.tdiv (w64 ((w64 ((p_signals.length : Int) + p_size)) - 1)) p_size)))) then
 (sub p_signals (w64 (st8.2 * p_size)) (bif decide ((w64 ((w64 (st8.2 + 1)) * p_size)) < (p_signals.length : Int)) then (w64 ((w64 (st8.2 + 1)) * p_size)) else (p_signals.length : Int))).bind fun l9 =>
 (slices_Clone_int l9).bind fun r10 =>
 bif decide (List.length st8.1 + List.length [(p_message, st8.2, (w64 (Int.tdiv (w64 ((w64 ((p_signals.length : Int) + p_size)) - 1)) p_size)), r10, ())] ≤ lim) then
 some (.inl ((st8.1 ++ [(p_message, st8.2, (w64 (Int.tdiv (w64 ((w64 ((p_signals.length : Int) + p_size)) - 1)) p_size)), r10, ())]), (w64 (st8.2 + 1))))
 else
 none
 else
 some (.inr st8.1) : Option (((List GPacket) × Int) ⊕ ((List GPacket))))) ([], 0)).bind fun o11 =>
 some (o11, true)
 else
 none
def C8 : FnSpec := { ps := [.val (.int .i64), .val (.slice (.int .i64)), .val (.int .i64)], rs := [.own (.slice TGPacket), .val .bool], fn := fun x => i_SplitMessage x.1 x.2.1 x.2.2 }
def E8 : Env := { T := [(23, (.slice (.int .i64))), (29, (.slice TGPacket)), (37, TGPacket)], G := [(26, C26), (27, C27), (28, C28)], ro := [], loops := [(8, { keep := [0, 1, 2, 8, 39], live := [.own 9 [] 200009 TGPacket true, .tv 40 (.int .i64)], outs := [(.exit 0, [.own 9 [] 200009 TGPacket true])] })], joins := [], mv := true }
theorem S8 : Sound Tryz.prog 8 C8 := fun_sound (E := E8) ⟨good_T (by kernel_rfl), (good_cons S26 ⟨_, Tryz.func26, by kernel_rfl, by kernel_rfl⟩ (good_cons S27 ⟨_, Tryz.func27, by kernel_rfl, by kernel_rfl⟩ (good_cons S28 ⟨_, Tryz.func28, by kernel_rfl, by kernel_rfl⟩ good_nil))), mixedOk, ins_nil⟩ Tryz.func8 rfl fun _ => by kernel_rfl
def s_pkMessage (p_message : Int) : Option (Bool) :=
 (s_l1In p_message 1 999).bind fun r1 =>
 some r1
def C29 : FnSpec := { ps := [.val (.int .i64)], rs := [.val .bool], fn := fun x => s_pkMessage x }
def E29 : Env := { T := [], G := [(30, C30)], ro := [], loops := [], joins := [] }
theorem S29 : Sound Tryz.prog 29 C29 := fun_sound (E := E29) ⟨good_T (by kernel_rfl), (good_cons S30 ⟨_, Tryz.func30, by kernel_rfl, by kernel_rfl⟩ good_nil), mixedOk, ins_nil⟩ Tryz.func29 rfl fun _ => by kernel_rfl
def s_l1Own (p_l : List Int) : Option ((List Int)) :=
 bif decide (List.length p_l ≤ lim) then
 some p_l
 else
 none
def C46 : FnSpec := { ps := [.val (.slice (.int .i64))], rs := [.own (.slice (.int .i64))], fn := fun x => s_l1Own x }
def E46 : Env := { T := [(23, (.slice (.int .i64)))], G := [], ro := [], loops := [], joins := [] }
theorem S46 : Sound Tryz.prog 46 C46 := fun_sound (E := E46) ⟨good_T (by kernel_rfl), good_nil, mixedOk, ins_nil⟩ Tryz.func46 rfl fun _ => by kernel_rfl
def s_l1Least (p_a : Int) (p_b : Int) : Option (Int) :=
 bif (decide (p_a < p_b)) then
 some p_a
 else
 some p_b
def C56 : FnSpec := { ps := [.val (.int .i64), .val (.int .i64)], rs := [.val (.int .i64)], fn := fun x => s_l1Least x.1 x.2 }
def E56 : Env := { T := [], G := [], ro := [], loops := [], joins := [] }
theorem S56 : Sound Tryz.prog 56 C56 := fun_sound (E := E56) ⟨good_T (by kernel_rfl), good_nil, mixedOk, ins_nil⟩ Tryz.func56 rfl fun _ => by kernel_rfl
def s_pkSplit (p_message : Int) (p_signals : List Int) (p_size : Int) : Option ((List GPacket)) :=
 bif (!decide (p_size = 0)) then
 (loopE (fun (st2 : (List GPacket) × Int) => (
 bif (decide (st2.2 < (w64 (Int.tdiv (w64 ((w64 ((p_signals.length : Int) + p_size)) - 1)) p_size)))) then
 (s_l1Least (p_signals.length : Int) (w64 ((w64 (st2.2 + 1)) * p_size))).bind fun r3 =>
 (sub p_signals (w64 (st2.2 * p_size)) r3).bind fun l4 =>
 (s_l1Own l4).bind fun r5 =>
 bif decide (List.length st2.1 + List.length [(p_message, st2.2, (w64 (Int.tdiv (w64 ((w64 ((p_signals.length : Int) + p_size)) - 1)) p_size)), r5, ())] ≤ lim) then
 some (.inl ((st2.1 ++ [(p_message, st2.2, (w64 (Int.tdiv (w64 ((w64 ((p_signals.length : Int) + p_size)) - 1)) p_size)), r5, ())]), (w64 (st2.2 + 1))))
 else
 none
 else
 some (.inr st2.1) : Option (((List GPacket) × Int) ⊕ ((List GPacket))))) ([], 0)).bind fun o6 =>
 some o6
 else
 none
def C32 : FnSpec := { ps := [.val (.int .i64), .val (.slice (.int .i64)), .val (.int .i64)], rs := [.own (.slice TGPacket)], fn := fun x => s_pkSplit x.1 x.2.1 x.2.2 }
def E32 : Env := { T := [(23, (.slice (.int .i64))), (29, (.slice TGPacket)), (37, TGPacket)], G := [(46, C46), (56, C56)], ro := [], loops := [(4, { keep := [0, 1, 2, 7], live := [.own 8 [] 200008 TGPacket true, .tv 9 (.int .i64)], outs := [(.exit 0, [.own 8 [] 200008 TGPacket true])] })], joins := [], mv := true }
theorem S32 : Sound Tryz.prog 32 C32 := fun_sound (E := E32) ⟨good_T (by kernel_rfl), (good_cons S46 ⟨_, Tryz.func46, by kernel_rfl, by kernel_rfl⟩ (good_cons S56 ⟨_, Tryz.func56, by kernel_rfl, by kernel_rfl⟩ good_nil)), mixedOk, ins_nil⟩ Tryz.func32 rfl fun _ => by kernel_rfl
def s_SplitMessage (p_message : Int) (p_signals : List Int) (p_size : Int) : Option ((List GPacket) × Bool) :=
 (s_pkMessage p_message).bind fun r1 =>
 (bif (!r1) then
 some true
 else
 (s_l1In p_size 1 8).bind fun r2 =>
 some (!r2)).bind fun c3 =>
 (bif c3 then
 some true
 else
 (s_l1In (p_signals.length : Int) 1 (w64 (p_size * 9))).bind fun r4 =>
 some (!r4)).bind fun c5 =>
 (bif c5 then
 some true
 else
 (s_l1All p_signals 1 60).bind fun r6 =>
 some (!r6)).bind fun c7 =>
 bif c7 then
 some ([], false)
 else
 (s_pkSplit p_message p_signals p_size).bind fun r8 =>
 some (r8, true)
def C9 : FnSpec := { ps := [.val (.int .i64), .val (.slice (.int .i64)), .val (.int .i64)], rs := [.own (.slice TGPacket), .val .bool], fn := fun x => s_SplitMessage x.1 x.2.1 x.2.2 }
def E9 : Env := { T := [(23, (.slice (.int .i64)))], G := [(29, C29), (30, C30), (31, C31), (32, C32)], ro := [], loops := [], joins := [] }
theorem S9 : Sound Tryz.prog 9 C9 := fun_sound (E := E9) ⟨good_T (by kernel_rfl), (good_cons S29 ⟨_, Tryz.func29, by kernel_rfl, by kernel_rfl⟩ (good_cons S30 ⟨_, Tryz.func30, by kernel_rfl, by kernel_rfl⟩ (good_cons S31 ⟨_, Tryz.func31, by kernel_rfl, by kernel_rfl⟩ (good_cons S32 ⟨_, Tryz.func32, by kernel_rfl, by kernel_rfl⟩ good_nil)))), mixedOk, ins_nil⟩ Tryz.func9 rfl fun _ => by kernel_rfl
def i_increasing (p_l : List Int) : Option (Bool) :=
 (loopE (fun (st2 : Int) => (
 bif (decide (st2 < (p_l.length : Int))) then
 (idx p_l (w64 (st2 - 1))).bind fun e3 =>
 (idx p_l st2).bind fun e4 =>
 bif (decide (e4 ≤ e3)) then
 some (.inr (.inr false))
 else
 some (.inl (w64 (st2 + 1)))
 else
 some (.inr (.inl ())) : Option ((Int) ⊕ (Unit ⊕ Bool)))) 1).bind fun o5 =>
 match o5 with
 | .inl _ =>
  some true
 | .inr y7 =>
  some y7
def C57 : FnSpec := { ps := [.val (.slice (.int .i64))], rs := [.val .bool], fn := fun x => i_increasing x }
def E57 : Env := { T := [(3, (.int .i64)), (23, (.slice (.int .i64)))], G := [], ro := [], loops := [(2, { keep := [0], live := [.tv 3 (.int .i64)], outs := [(.exit 0, []), (.ret, [.tv 2 .bool])] })], joins := [] }
theorem S57 : Sound Tryz.prog 57 C57 := fun_sound (E := E57) ⟨good_T (by kernel_rfl), good_nil, mixedOk, ins_nil⟩ Tryz.func57 rfl fun _ => by kernel_rfl
def i_AreTickets (p_l : List GTicket) : Option (Bool) :=
 bif (decide (20 < (p_l.length : Int))) then
 some false
 else
 (loopE (fun (st2 : Int) => (
 bif (decide (st2 < (p_l.length : Int))) then
 (idx p_l st2).bind fun e3 =>
 (i_within e3.1 1 999).bind fun r4 =>
 (bif (!r4) then
 some true
 else
 (i_within e3.2.1 1 9).bind fun r5 =>
 some (!r5)).bind fun c6 =>
 (bif c6 then
 some true
 else
 (i_allWithin e3.2.2.1 0 (w64 (e3.2.1 - 1))).bind fun r7 =>
 some (!r7)).bind fun c8 =>
 (bif c8 then
 some true
 else
 (i_increasing e3.2.2.1).bind fun r9 =>
 some (!r9)).bind fun c10 =>
 (bif c10 then
 some true
 else
 (bif (decide (0 < st2)) then
 (idx p_l (w64 (st2 - 1))).bind fun e11 =>
 some (decide (e3.1 ≤ e11.1))
 else
 some false).bind fun c12 =>
 some c12).bind fun c13 =>
 bif c13 then
 some (.inr (.inr false))
 else
 (bif ((decide ((e3.2.2.1.length : Int) = e3.2.1)) != (decide (e3.2.2.2.1 = 1))) then
 some true
 else
 (i_within e3.2.2.2.1 0 2).bind fun r14 =>
 some (!r14)).bind fun c15 =>
 bif c15 then
 some (.inr (.inr false))
 else
 some (.inl (w64 (st2 + 1)))
 else
 some (.inr (.inl ())) : Option ((Int) ⊕ (Unit ⊕ Bool)))) 0).bind fun o16 =>
 match o16 with
 | .inl _ =>
  some true
 | .inr y18 =>
  some y18
def C33 : FnSpec := { ps := [.val (.slice TGTicket)], rs := [.val .bool], fn := fun x => i_AreTickets x }
def E33 : Env := { T := [(3, (.int .i64)), (4, .bool), (23, (.slice (.int .i64))), (32, (.slice TGTicket)), (74, TGTicket)], G := [(26, C26), (27, C27), (57, C57)], ro := [], loops := [(4, { keep := [0, 9, 10], live := [.tv 11 (.int .i64)], outs := [(.exit 0, []), (.ret, [.tv 2 .bool])] })], joins := [] }
theorem S33 : Sound Tryz.prog 33 C33 := fun_sound (E := E33) ⟨good_T (by kernel_rfl), (good_cons S26 ⟨_, Tryz.func26, by kernel_rfl, by kernel_rfl⟩ (good_cons S27 ⟨_, Tryz.func27, by kernel_rfl, by kernel_rfl⟩ (good_cons S57 ⟨_, Tryz.func57, by kernel_rfl, by kernel_rfl⟩ good_nil))), mixedOk, ins_nil⟩ Tryz.func33 rfl fun _ => by kernel_rfl
def i_ticketIndex_1 (p_x : GTicket) (p_a1 : Int) : Option (Bool) :=
 some (decide (p_x.1 = p_a1))
def C63 : FnSpec := { ps := [.val TGTicket, .rp (.int .i64)], rs := [.val .bool], fn := fun x => i_ticketIndex_1 x.1 x.2 }
def E63 : Env := { T := [(3, (.int .i64)), (74, TGTicket)], G := [], ro := [2], loops := [], joins := [] }
theorem S63 : Sound Tryz.prog 63 C63 := fun_sound (E := E63) ⟨good_T (by kernel_rfl), good_nil, mixedOk, ins_nil⟩ Tryz.func63 rfl fun _ => by kernel_rfl
def slices_IndexFunc_Ticket_63 (p_s : List GTicket) (p_f : Int × Unit) : Option (Int) :=
 (loopE (fun (st2 : Int) => (
 bif (decide (st2 < (p_s.length : Int))) then
 (idx p_s st2).bind fun e3 =>
 (i_ticketIndex_1 e3 p_f.1).bind fun r4 =>
 bif r4 then
 some (.inr (.inr st2))
 else
 some (.inl (w64 (st2 + 1)))
 else
 some (.inr (.inl ())) : Option ((Int) ⊕ (Unit ⊕ Int)))) 0).bind fun o5 =>
 match o5 with
 | .inl _ =>
  some (-1)
 | .inr y7 =>
  some y7
def C62_63 : FnSpec := { ps := [.val (.slice TGTicket), .fn 63 [(.int .i64)]], rs := [.val (.int .i64)], fn := fun x => slices_IndexFunc_Ticket_63 x.1 x.2 }
def E62_63 : Env := { T := [(32, (.slice TGTicket)), (74, TGTicket)], G := [(63, C63)], ro := [], loops := [(2, { keep := [0, 1, 7], live := [.tv 8 (.int .i64)], outs := [(.exit 0, []), (.ret, [.tv 4 (.int .i64)])] })], joins := [] }
theorem S62_63 : Sound Tryz.prog 62 C62_63 := fun_sound (E := E62_63) ⟨good_T (by kernel_rfl), (good_cons S63 ⟨_, Tryz.func63, by kernel_rfl, by kernel_rfl⟩ good_nil), mixedOk, ins_nil⟩ Tryz.func62 rfl fun _ => by kernel_rfl
def i_ticketIndex (p_l : List GTicket) (p_message : Int) : Option (Int) :=
 (slices_IndexFunc_Ticket_63 p_l (p_message, ())).bind fun r1 =>
 some r1
def C35 : FnSpec := { ps := [.val (.slice TGTicket), .val (.int .i64)], rs := [.val (.int .i64)], fn := fun x => i_ticketIndex x.1 x.2 }
def E35 : Env := { T := [(3, (.int .i64))], G := [(62, C62_63)], ro := [3], loops := [], joins := [] }
theorem S35 : Sound Tryz.prog 35 C35 := fun_sound (E := E35) ⟨good_T (by kernel_rfl), (good_cons S62_63 ⟨_, Tryz.func62, by kernel_rfl, by kernel_rfl⟩ good_nil), mixedOk, ins_nil⟩ Tryz.func35 rfl fun _ => by kernel_rfl
def i_cloneTickets (p_l : List GTicket) : Option ((List GTicket)) :=
 bif decide (0 ≤ (p_l.length : Int)) && decide ((p_l.length : Int) ≤ (p_l.length : Int)) && decide ((p_l.length : Int) ≤ lim) then
 (loopE (fun (st2 : (List GTicket) × Int) => (
 bif (decide (st2.2 < (p_l.length : Int))) then
 (idx p_l st2.2).bind fun e3 =>
 (slices_Clone_int e3.2.2.1).bind fun r4 =>
 bif decide (0 ≤ st2.2) && decide (st2.2 < (st2.1.length : Int)) then
 some (.inl ((st2.1.set (Int.toNat st2.2) (e3.1, e3.2.1, r4, e3.2.2.2)), (w64 (st2.2 + 1))))
 else
 none
 else
 some (.inr st2.1) : Option (((List GTicket) × Int) ⊕ ((List GTicket))))) ((List.replicate (Int.toNat (p_l.length : Int)) ((0, (0, ([], (0, ())))) : GTicket)), 0)).bind fun o5 =>
 some o5
 else
 none
def C58 : FnSpec := { ps := [.val (.slice TGTicket)], rs := [.own (.slice TGTicket)], fn := fun x => i_cloneTickets x }
def E58 : Env := { T := [(23, (.slice (.int .i64))), (32, (.slice TGTicket)), (74, TGTicket)], G := [(28, C28)], ro := [], loops := [(3, { keep := [9, 10], live := [.own 3 [] 128 TGTicket true, .tv 11 (.int .i64)], outs := [(.exit 0, [.own 3 [] 128 TGTicket true])] })], joins := [], mv := true }
theorem S58 : Sound Tryz.prog 58 C58 := fun_sound (E := E58) ⟨good_T (by kernel_rfl), (good_cons S28 ⟨_, Tryz.func28, by kernel_rfl, by kernel_rfl⟩ good_nil), mixedOk, ins_nil⟩ Tryz.func58 rfl fun _ => by kernel_rfl
def slices_Index_int (p_s : List Int) (p_v : Int) : Option (Int) :=
 (loopE (fun (st2 : Int) => (
 bif (decide (st2 < (p_s.length : Int))) then
 (idx p_s st2).bind fun e3 =>
 bif (decide (p_v = e3)) then
 some (.inr (.inr st2))
 else
 some (.inl (w64 (st2 + 1)))
 else
 some (.inr (.inl ())) : Option ((Int) ⊕ (Unit ⊕ Int)))) 0).bind fun o4 =>
 match o4 with
 | .inl _ =>
  some (-1)
 | .inr y6 =>
  some y6
def C85 : FnSpec := { ps := [.val (.slice (.int .i64)), .val (.int .i64)], rs := [.val (.int .i64)], fn := fun x => slices_Index_int x.1 x.2 }
def E85 : Env := { T := [(3, (.int .i64)), (23, (.slice (.int .i64)))], G := [], ro := [], loops := [(2, { keep := [0, 1, 7], live := [.tv 8 (.int .i64)], outs := [(.exit 0, []), (.ret, [.tv 4 (.int .i64)])] })], joins := [] }
theorem S85 : Sound Tryz.prog 85 C85 := fun_sound (E := E85) ⟨good_T (by kernel_rfl), good_nil, mixedOk, ins_nil⟩ Tryz.func85 rfl fun _ => by kernel_rfl
def slices_Contains_int (p_s : List Int) (p_v : Int) : Option (Bool) :=
 (slices_Index_int p_s p_v).bind fun r1 =>
 some (decide (0 ≤ r1))
def C60 : FnSpec := { ps := [.val (.slice (.int .i64)), .val (.int .i64)], rs := [.val .bool], fn := fun x => slices_Contains_int x.1 x.2 }
def E60 : Env := { T := [], G := [(85, C85)], ro := [], loops := [], joins := [] }
theorem S60 : Sound Tryz.prog 60 C60 := fun_sound (E := E60) ⟨good_T (by kernel_rfl), (good_cons S85 ⟨_, Tryz.func85, by kernel_rfl, by kernel_rfl⟩ good_nil), mixedOk, ins_nil⟩ Tryz.func60 rfl fun _ => by kernel_rfl
def cmp_isNaN_int (p_x : Int) : Option (Bool) :=
 some (!decide (p_x = p_x))
def C121 : FnSpec := { ps := [.val (.int .i64)], rs := [.val .bool], fn := fun x => cmp_isNaN_int x }
def E121 : Env := { T := [], G := [], ro := [], loops := [], joins := [] }
theorem S121 : Sound Tryz.prog 121 C121 := fun_sound (E := E121) ⟨good_T (by kernel_rfl), good_nil, mixedOk, ins_nil⟩ Tryz.func121 rfl fun _ => by kernel_rfl
def cmp_Less_int (p_x : Int) (p_y : Int) : Option (Bool) :=
 (cmp_isNaN_int p_x).bind fun r1 =>
 (bif r1 then
 (cmp_isNaN_int p_y).bind fun r2 =>
 some (!r2)
 else
 some false).bind fun c3 =>
 (bif c3 then
 some true
 else
 some (decide (p_x < p_y))).bind fun c4 =>
 some c4
def C106 : FnSpec := { ps := [.val (.int .i64), .val (.int .i64)], rs := [.val .bool], fn := fun x => cmp_Less_int x.1 x.2 }
def E106 : Env := { T := [], G := [(121, C121)], ro := [], loops := [], joins := [] }
theorem S106 : Sound Tryz.prog 106 C106 := fun_sound (E := E106) ⟨good_T (by kernel_rfl), (good_cons S121 ⟨_, Tryz.func121, by kernel_rfl, by kernel_rfl⟩ good_nil), mixedOk, ins_nil⟩ Tryz.func106 rfl fun _ => by kernel_rfl
def slices_insertionSortOrdered_int (p_data : List Int) (p_a : Int) (p_b : Int) : Option ((List Int)) :=
 (loopE (fun (st2 : (List Int) × Int) => (
 bif (decide (st2.2 < p_b)) then
 (loopE (fun (st4 : (List Int) × Int) => (
 (bif (decide (p_a < st4.2)) then
 bif decide (0 ≤ st4.2) && decide (st4.2 < (st4.1.length : Int)) then
 (st4.1[(Int.toNat st4.2)]?).bind fun e5 =>
 bif decide (0 ≤ (w64 (st4.2 - 1))) && decide ((w64 (st4.2 - 1)) < (st4.1.length : Int)) then
 (st4.1[(Int.toNat (w64 (st4.2 - 1)))]?).bind fun e6 =>
 (cmp_Less_int e5 e6).bind fun r7 =>
 some r7
 else
 none
 else
 none
 else
 some false).bind fun c8 =>
 bif c8 then
 bif decide (0 ≤ (w64 (st4.2 - 1))) && decide ((w64 (st4.2 - 1)) < (st4.1.length : Int)) then
 (st4.1[(Int.toNat (w64 (st4.2 - 1)))]?).bind fun e9 =>
 bif decide (0 ≤ st4.2) && decide (st4.2 < (st4.1.length : Int)) then
 (st4.1[(Int.toNat st4.2)]?).bind fun e10 =>
 bif decide (0 ≤ st4.2) && decide (st4.2 < (st4.1.length : Int)) then
 bif decide (0 ≤ (w64 (st4.2 - 1))) && decide ((w64 (st4.2 - 1)) < ((st4.1.set (Int.toNat st4.2) e9).length : Int)) then
 some (.inl (((st4.1.set (Int.toNat st4.2) e9).set (Int.toNat (w64 (st4.2 - 1))) e10), (w64 (st4.2 - 1))))
 else
 none
 else
 none
 else
 none
 else
 none
 else
 some (.inr st4.1) : Option (((List Int) × Int) ⊕ ((List Int))))) (st2.1, st2.2)).bind fun o11 =>
 some (.inl (o11, (w64 (st2.2 + 1))))
 else
 some (.inr st2.1) : Option (((List Int) × Int) ⊕ ((List Int))))) (p_data, (w64 (p_a + 1)))).bind fun o12 =>
 some o12
def C100 : FnSpec := { ps := [.own (.slice (.int .i64)), .val (.int .i64), .val (.int .i64)], rs := [], fn := fun x => slices_insertionSortOrdered_int x.1 x.2.1 x.2.2 }
def E100 : Env := { T := [(3, (.int .i64)), (23, (.slice (.int .i64)))], G := [(106, C106)], ro := [], loops := [(1, { keep := [1, 2], live := [.own 0 [] 100000 (.int .i64) true, .tv 6 (.int .i64)], outs := [(.exit 0, [.own 0 [] 100000 (.int .i64) true])] }), (4, { keep := [1, 2, 6], live := [.own 0 [] 100000 (.int .i64) true, .tv 7 (.int .i64)], outs := [(.exit 2, [.own 0 [] 100000 (.int .i64) true])] })], joins := [], hoist := [(6, [2, 3, 4])] }
theorem S100 : Sound Tryz.prog 100 C100 := fun_sound_own (E := E100) ⟨good_T (by kernel_rfl), (good_cons S106 ⟨_, Tryz.func106, by kernel_rfl, by kernel_rfl⟩ good_nil), mixedOk, ins_nil⟩ Tryz.func100 rfl rfl fun _ => by kernel_rfl
def slices_heapSortOrdered_int (_ : List Int) (_ : Int) (_ : Int) : Option (Unit) :=
 none
def C101 : FnSpec := { ps := [.val (.slice (.int .i64)), .val (.int .i64), .val (.int .i64)], rs := [], fn := fun x => slices_heapSortOrdered_int x.1 x.2.1 x.2.2 }
theorem S101 : Sound Tryz.prog 101 C101 := fun _ _ _ _ _ _ _ _ _ _ h => nomatch h
def slices_breakPatternsOrdered_int (_ : List Int) (_ : Int) (_ : Int) : Option (Unit) :=
 none
def C102 : FnSpec := { ps := [.val (.slice (.int .i64)), .val (.int .i64), .val (.int .i64)], rs := [], fn := fun x => slices_breakPatternsOrdered_int x.1 x.2.1 x.2.2 }
theorem S102 : Sound Tryz.prog 102 C102 := fun _ _ _ _ _ _ _ _ _ _ h => nomatch h
def slices_choosePivotOrdered_int (_ : List Int) (_ : Int) (_ : Int) : Option (Int × Int) :=
 none
def C103 : FnSpec := { ps := [.val (.slice (.int .i64)), .val (.int .i64), .val (.int .i64)], rs := [.val (.int .i64), .val (.int .i64)], fn := fun x => slices_choosePivotOrdered_int x.1 x.2.1 x.2.2 }
theorem S103 : Sound Tryz.prog 103 C103 := fun _ _ _ _ _ _ _ _ _ _ h => nomatch h
def slices_reverseRangeOrdered_int (_ : List Int) (_ : Int) (_ : Int) : Option (Unit) :=
 none
def C104 : FnSpec := { ps := [.val (.slice (.int .i64)), .val (.int .i64), .val (.int .i64)], rs := [], fn := fun x => slices_reverseRangeOrdered_int x.1 x.2.1 x.2.2 }
theorem S104 : Sound Tryz.prog 104 C104 := fun _ _ _ _ _ _ _ _ _ _ h => nomatch h
def slices_partialInsertionSortOrdered_int (_ : List Int) (_ : Int) (_ : Int) : Option (Bool) :=
 none
def C105 : FnSpec := { ps := [.val (.slice (.int .i64)), .val (.int .i64), .val (.int .i64)], rs := [.val .bool], fn := fun x => slices_partialInsertionSortOrdered_int x.1 x.2.1 x.2.2 }
theorem S105 : Sound Tryz.prog 105 C105 := fun _ _ _ _ _ _ _ _ _ _ h => nomatch h
def slices_partitionEqualOrdered_int (_ : List Int) (_ : Int) (_ : Int) (_ : Int) : Option (Int) :=
 none
def C107 : FnSpec := { ps := [.val (.slice (.int .i64)), .val (.int .i64), .val (.int .i64), .val (.int .i64)], rs := [.val (.int .i64)], fn := fun x => slices_partitionEqualOrdered_int x.1 x.2.1 x.2.2.1 x.2.2.2 }
theorem S107 : Sound Tryz.prog 107 C107 := fun _ _ _ _ _ _ _ _ _ _ h => nomatch h
def slices_partitionOrdered_int (_ : List Int) (_ : Int) (_ : Int) (_ : Int) : Option (Int × Bool) :=
 none
def C108 : FnSpec := { ps := [.val (.slice (.int .i64)), .val (.int .i64), .val (.int .i64), .val (.int .i64)], rs := [.val (.int .i64), .val .bool], fn := fun x => slices_partitionOrdered_int x.1 x.2.1 x.2.2.1 x.2.2.2 }
theorem S108 : Sound Tryz.prog 108 C108 := fun _ _ _ _ _ _ _ _ _ _ h => nomatch h
def slices_pdqsortOrdered_int_step (slices_pdqsortOrdered_int_again : (List Int) → Int → Int → Int → Option ((List Int))) (p_data : List Int) (p_a : Int) (p_b : Int) (p_limit : Int) : Option ((List Int)) :=
 (loopE (fun (st2 : (List Int) × Int × Int × Int × Bool × Bool) => (
 bif (decide ((w64 (st2.2.2.1 - st2.2.1)) ≤ 12)) then
 (slices_insertionSortOrdered_int st2.1 st2.2.1 st2.2.2.1).bind fun r3 =>
 some (.inr r3)
 else
 bif (decide (st2.2.2.2.1 = 0)) then
 (slices_heapSortOrdered_int st2.1 st2.2.1 st2.2.2.1).bind fun _ =>
 some (.inr st2.1)
 else
 (bif (!st2.2.2.2.2.1) then
 (slices_breakPatternsOrdered_int st2.1 st2.2.1 st2.2.2.1).bind fun _ =>
 some (st2.1, (w64 (st2.2.2.2.1 - 1)))
 else
 some (st2.1, st2.2.2.2.1)).bind fun j6 =>
 (slices_choosePivotOrdered_int j6.1 st2.2.1 st2.2.2.1).bind fun r7 =>
 (bif (decide (r7.2 = 2)) then
 (slices_reverseRangeOrdered_int j6.1 st2.2.1 st2.2.2.1).bind fun _ =>
 some (j6.1, (w64 ((w64 (st2.2.2.1 - 1)) - (w64 (r7.1 - st2.2.1)))), 1)
 else
 some (j6.1, r7.1, r7.2)).bind fun j9 =>
 (((bif st2.2.2.2.2.1 then
 some st2.2.2.2.2.2
 else
 some false).bind fun c10 =>
 (bif c10 then
 some (decide (j9.2.2 = 1))
 else
 some false).bind fun c11 =>
 bif c11 then
 (slices_partialInsertionSortOrdered_int j9.1 st2.2.1 st2.2.2.1).bind fun r12 =>
 bif r12 then
 some (.inr j9.1)
 else
 some (.inl j9.1)
 else
 some (.inl j9.1) : Option ((List Int) ⊕ (List Int)))).bind fun j13 =>
 match j13 with
 | .inl x14 =>
  (bif (decide (0 < st2.2.1)) then
  bif decide (0 ≤ (w64 (st2.2.1 - 1))) && decide ((w64 (st2.2.1 - 1)) < (x14.length : Int)) then
  (x14[(Int.toNat (w64 (st2.2.1 - 1)))]?).bind fun e16 =>
  bif decide (0 ≤ j9.2.1) && decide (j9.2.1 < (x14.length : Int)) then
  (x14[(Int.toNat j9.2.1)]?).bind fun e17 =>
  (cmp_Less_int e16 e17).bind fun r18 =>
  some (!r18)
  else
  none
  else
  none
  else
  some false).bind fun c19 =>
  bif c19 then
  (slices_partitionEqualOrdered_int x14 st2.2.1 st2.2.2.1 j9.2.1).bind fun r20 =>
  some (.inl (x14, r20, st2.2.2.1, j6.2, st2.2.2.2.2.1, st2.2.2.2.2.2))
  else
  (slices_partitionOrdered_int x14 st2.2.1 st2.2.2.1 j9.2.1).bind fun r21 =>
  bif (decide ((w64 (r21.1 - st2.2.1)) < (w64 (st2.2.2.1 - r21.1)))) then
  (slices_pdqsortOrdered_int_again x14 st2.2.1 r21.1 j6.2).bind fun r22 =>
  some (.inl (r22, (w64 (r21.1 + 1)), st2.2.2.1, j6.2, (decide ((w64 (Int.tdiv (w64 (st2.2.2.1 - st2.2.1)) 8)) ≤ (w64 (r21.1 - st2.2.1)))), r21.2))
  else
  (slices_pdqsortOrdered_int_again x14 (w64 (r21.1 + 1)) st2.2.2.1 j6.2).bind fun r23 =>
  some (.inl (r23, st2.2.1, r21.1, j6.2, (decide ((w64 (Int.tdiv (w64 (st2.2.2.1 - st2.2.1)) 8)) ≤ (w64 (st2.2.2.1 - r21.1)))), r21.2))
 | .inr y15 =>
  some (.inr y15) : Option (((List Int) × Int × Int × Int × Bool × Bool) ⊕ ((List Int))))) (p_data, p_a, p_b, p_limit, true, true)).bind fun o24 =>
 some o24
def slices_pdqsortOrdered_int_it : Nat → (List Int) → Int → Int → Int → Option ((List Int))
  | 0, _, _, _, _ => none
  | k + 1, p_data, p_a, p_b, p_limit => slices_pdqsortOrdered_int_step (slices_pdqsortOrdered_int_it k) p_data p_a p_b p_limit
def slices_pdqsortOrdered_int (p_data : List Int) (p_a : Int) (p_b : Int) (p_limit : Int) : Option ((List Int)) := limE fun k => slices_pdqsortOrdered_int_it k p_data p_a p_b p_limit
def C86 : FnSpec := { ps := [.own (.slice (.int .i64)), .val (.int .i64), .val (.int .i64), .val (.int .i64)], rs := [], fn := fun x => slices_pdqsortOrdered_int x.1 x.2.1 x.2.2.1 x.2.2.2 }
def CR86 (again : (List Int) → Int → Int → Int → Option ((List Int))) : FnSpec := { ps := [.own (.slice (.int .i64)), .val (.int .i64), .val (.int .i64), .val (.int .i64)], rs := [], fn := fun x => again x.1 x.2.1 x.2.2.1 x.2.2.2 }
def E86 (again : (List Int) → Int → Int → Int → Option ((List Int))) : Env := { T := [(3, (.int .i64)), (23, (.slice (.int .i64)))], G := [(86, CR86 again), (100, C100), (101, C101), (102, C102), (103, C103), (104, C104), (105, C105), (106, C106), (107, C107), (108, C108)], ro := [], loops := [(2, { keep := [], live := [.own 0 [] 100000 (.int .i64) true, .tv 1 (.int .i64), .tv 2 (.int .i64), .tv 3 (.int .i64), .tv 8 .bool, .tv 9 .bool], outs := [(.ret, [.own 0 [] 100000 (.int .i64) true])] })], joins := [(10, { keep := [1, 2, 8, 9, 10], live := [], outs := [(.normal, [.own 0 [] 100000 (.int .i64) true, .tv 3 (.int .i64)])] }), (15, { keep := [1, 2, 3, 8, 9, 10], live := [], outs := [(.normal, [.own 0 [] 100000 (.int .i64) true, .tv 11 (.int .i64), .tv 12 (.int .i64)])] }), (17, { keep := [1, 2, 3, 8, 9, 10, 11], live := [], outs := [(.normal, [.own 0 [] 100000 (.int .i64) true]), (.ret, [.own 0 [] 100000 (.int .i64) true])] })] }
theorem E86_eq : ∀ (again : (List Int) → Int → Int → Int → Option ((List Int))) x, afun (E86 again) Tryz.f86 C86.ps C86.rs x = slices_pdqsortOrdered_int_step again x.1 x.2.1 x.2.2.1 x.2.2.2 := fun again x => by kernel_rfl
theorem S86_it : ∀ k, Sound Tryz.prog 86 (CR86 (slices_pdqsortOrdered_int_it k))
  | 0 => fun _ _ _ _ _ _ _ _ _ _ h => nomatch h
  | k + 1 => fun_sound_own (E := E86 (slices_pdqsortOrdered_int_it k)) ⟨good_T (by kernel_rfl), (good_cons (S86_it k) ⟨_, Tryz.func86, by kernel_rfl, by kernel_rfl⟩ (good_cons S100 ⟨_, Tryz.func100, by kernel_rfl, by kernel_rfl⟩ (good_cons S101 ⟨_, Tryz.func101, by kernel_rfl, by kernel_rfl⟩ (good_cons S102 ⟨_, Tryz.func102, by kernel_rfl, by kernel_rfl⟩ (good_cons S103 ⟨_, Tryz.func103, by kernel_rfl, by kernel_rfl⟩ (good_cons S104 ⟨_, Tryz.func104, by kernel_rfl, by kernel_rfl⟩ (good_cons S105 ⟨_, Tryz.func105, by kernel_rfl, by kernel_rfl⟩ (good_cons S106 ⟨_, Tryz.func106, by kernel_rfl, by kernel_rfl⟩ (good_cons S107 ⟨_, Tryz.func107, by kernel_rfl, by kernel_rfl⟩ (good_cons S108 ⟨_, Tryz.func108, by kernel_rfl, by kernel_rfl⟩ good_nil)))))))))), mixedOk, ins_nil⟩ Tryz.func86 rfl rfl (E86_eq _)
theorem S86 : Sound Tryz.prog 86 C86 := sound_lim (P := Tryz.prog) (f := 86) (ps := C86.ps) (rs := C86.rs) (g := fun k x => slices_pdqsortOrdered_int_it k x.1 x.2.1 x.2.2.1 x.2.2.2) S86_it
def math_bits_Len32 (p_x : Int) : Option (Int) :=
 bif (decide (65536 ≤ p_x)) then
 bif (decide (256 ≤ (shiftI .shr .u32 p_x 16))) then
 (idx ([0, 1, 2, 2, 3, 3, 3, 3, 4, 4, 4, 4, 4, 4, 4, 4, 5, 5, 5, 5, 5, 5, 5, 5, 5, 5, 5, 5, 5, 5, 5, 5, 6, 6, 6, 6, 6, 6, 6, 6, 6, 6, 6, 6, 6, 6, 6, 6, 6, 6, 6, 6, 6, 6, 6, 6, 6, 6, 6, 6, 6, 6, 6, 6, 7, 7, 7, 7, 7, 7, 7, 7, 7, 7, 7, 7, 7, 7, 7, 7, 7, 7, 7, 7, 7, 7, 7, 7, 7, 7, 7, 7, 7, 7, 7, 7, 7, 7, 7, 7, 7, 7, 7, 7, 7, 7, 7, 7, 7, 7, 7, 7, 7, 7, 7, 7, 7, 7, 7, 7, 7, 7, 7, 7, 7, 7, 7, 7, 8, 8, 8, 8, 8, 8, 8, 8, 8, 8, 8, 8, 8, 8, 8, 8, 8, 8, 8, 8, 8, 8, 8, 8, 8, 8, 8, 8, 8, 8, 8, 8, 8, 8, 8, 8, 8, 8, 8, 8, 8, 8, 8, 8, 8, 8, 8, 8, 8, 8, 8, 8, 8, 8, 8, 8, 8, 8, 8, 8, 8, 8, 8, 8, 8, 8, 8, 8, 8, 8, 8, 8, 8, 8, 8, 8, 8, 8, 8, 8, 8, 8, 8, 8, 8, 8, 8, 8, 8, 8, 8, 8, 8, 8, 8, 8, 8, 8, 8, 8, 8, 8, 8, 8, 8, 8, 8, 8, 8, 8, 8, 8, 8, 8, 8, 8, 8, 8, 8, 8, 8, 8, 8, 8, 8, 8, 8, 8] : Bytes) (IntKind.u8.wrap (shiftI .shr .u32 (shiftI .shr .u32 p_x 16) 8))).bind fun b1 =>
 some (w64 ((w64 (16 + 8)) + (w64 (b1.toNat : Int))))
 else
 (idx ([0, 1, 2, 2, 3, 3, 3, 3, 4, 4, 4, 4, 4, 4, 4, 4, 5, 5, 5, 5, 5, 5, 5, 5, 5, 5, 5, 5, 5, 5, 5, 5, 6, 6, 6, 6, 6, 6, 6, 6, 6, 6, 6, 6, 6, 6, 6, 6, 6, 6, 6, 6, 6, 6, 6, 6, 6, 6, 6, 6, 6, 6, 6, 6, 7, 7, 7, 7, 7, 7, 7, 7, 7, 7, 7, 7, 7, 7, 7, 7, 7, 7, 7, 7, 7, 7, 7, 7, 7, 7, 7, 7, 7, 7, 7, 7, 7, 7, 7, 7, 7, 7, 7, 7, 7, 7, 7, 7, 7, 7, 7, 7, 7, 7, 7, 7, 7, 7, 7, 7, 7, 7, 7, 7, 7, 7, 7, 7, 8, 8, 8, 8, 8, 8, 8, 8, 8, 8, 8, 8, 8, 8, 8, 8, 8, 8, 8, 8, 8, 8, 8, 8, 8, 8, 8, 8, 8, 8, 8, 8, 8, 8, 8, 8, 8, 8, 8, 8, 8, 8, 8, 8, 8, 8, 8, 8, 8, 8, 8, 8, 8, 8, 8, 8, 8, 8, 8, 8, 8, 8, 8, 8, 8, 8, 8, 8, 8, 8, 8, 8, 8, 8, 8, 8, 8, 8, 8, 8, 8, 8, 8, 8, 8, 8, 8, 8, 8, 8, 8, 8, 8, 8, 8, 8, 8, 8, 8, 8, 8, 8, 8, 8, 8, 8, 8, 8, 8, 8, 8, 8, 8, 8, 8, 8, 8, 8, 8, 8, 8, 8, 8, 8, 8, 8, 8, 8] : Bytes) (IntKind.u8.wrap (shiftI .shr .u32 p_x 16))).bind fun b2 =>
 some (w64 (16 + (w64 (b2.toNat : Int))))
 else
 bif (decide (256 ≤ p_x)) then
 (idx ([0, 1, 2, 2, 3, 3, 3, 3, 4, 4, 4, 4, 4, 4, 4, 4, 5, 5, 5, 5, 5, 5, 5, 5, 5, 5, 5, 5, 5, 5, 5, 5, 6, 6, 6, 6, 6, 6, 6, 6, 6, 6, 6, 6, 6, 6, 6, 6, 6, 6, 6, 6, 6, 6, 6, 6, 6, 6, 6, 6, 6, 6, 6, 6, 7, 7, 7, 7, 7, 7, 7, 7, 7, 7, 7, 7, 7, 7, 7, 7, 7, 7, 7, 7, 7, 7, 7, 7, 7, 7, 7, 7, 7, 7, 7, 7, 7, 7, 7, 7, 7, 7, 7, 7, 7, 7, 7, 7, 7, 7, 7, 7, 7, 7, 7, 7, 7, 7, 7, 7, 7, 7, 7, 7, 7, 7, 7, 7, 8, 8, 8, 8, 8, 8, 8, 8, 8, 8, 8, 8, 8, 8, 8, 8, 8, 8, 8, 8, 8, 8, 8, 8, 8, 8, 8, 8, 8, 8, 8, 8, 8, 8, 8, 8, 8, 8, 8, 8, 8, 8, 8, 8, 8, 8, 8, 8, 8, 8, 8, 8, 8, 8, 8, 8, 8, 8, 8, 8, 8, 8, 8, 8, 8, 8, 8, 8, 8, 8, 8, 8, 8, 8, 8, 8, 8, 8, 8, 8, 8, 8, 8, 8, 8, 8, 8, 8, 8, 8, 8, 8, 8, 8, 8, 8, 8, 8, 8, 8, 8, 8, 8, 8, 8, 8, 8, 8, 8, 8, 8, 8, 8, 8, 8, 8, 8, 8, 8, 8, 8, 8, 8, 8, 8, 8, 8, 8] : Bytes) (IntKind.u8.wrap (shiftI .shr .u32 p_x 8))).bind fun b3 =>
 some (w64 ((w64 (0 + 8)) + (w64 (b3.toNat : Int))))
 else
 (idx ([0, 1, 2, 2, 3, 3, 3, 3, 4, 4, 4, 4, 4, 4, 4, 4, 5, 5, 5, 5, 5, 5, 5, 5, 5, 5, 5, 5, 5, 5, 5, 5, 6, 6, 6, 6, 6, 6, 6, 6, 6, 6, 6, 6, 6, 6, 6, 6, 6, 6, 6, 6, 6, 6, 6, 6, 6, 6, 6, 6, 6, 6, 6, 6, 7, 7, 7, 7, 7, 7, 7, 7, 7, 7, 7, 7, 7, 7, 7, 7, 7, 7, 7, 7, 7, 7, 7, 7, 7, 7, 7, 7, 7, 7, 7, 7, 7, 7, 7, 7, 7, 7, 7, 7, 7, 7, 7, 7, 7, 7, 7, 7, 7, 7, 7, 7, 7, 7, 7, 7, 7, 7, 7, 7, 7, 7, 7, 7, 8, 8, 8, 8, 8, 8, 8, 8, 8, 8, 8, 8, 8, 8, 8, 8, 8, 8, 8, 8, 8, 8, 8, 8, 8, 8, 8, 8, 8, 8, 8, 8, 8, 8, 8, 8, 8, 8, 8, 8, 8, 8, 8, 8, 8, 8, 8, 8, 8, 8, 8, 8, 8, 8, 8, 8, 8, 8, 8, 8, 8, 8, 8, 8, 8, 8, 8, 8, 8, 8, 8, 8, 8, 8, 8, 8, 8, 8, 8, 8, 8, 8, 8, 8, 8, 8, 8, 8, 8, 8, 8, 8, 8, 8, 8, 8, 8, 8, 8, 8, 8, 8, 8, 8, 8, 8, 8, 8, 8, 8, 8, 8, 8, 8, 8, 8, 8, 8, 8, 8, 8, 8, 8, 8, 8, 8, 8, 8] : Bytes) (IntKind.u8.wrap p_x)).bind fun b4 =>
 some (w64 (0 + (w64 (b4.toNat : Int))))
def C109 : FnSpec := { ps := [.val (.int .u32)], rs := [.val (.int .i64)], fn := fun x => math_bits_Len32 x }
def E109 : Env := { T := [(3, (.int .i64)), (5, (.int .u8)), (9, .str), (130, (.int .u32))], G := [], ro := [], loops := [], joins := [] }
theorem S109 : Sound Tryz.prog 109 C109 := fun_sound (E := E109) ⟨good_T (by kernel_rfl), good_nil, mixedOk, ins_nil⟩ Tryz.func109 rfl fun _ => by kernel_rfl
def math_bits_Len64 (p_x : Int) : Option (Int) :=
 bif (decide (4294967296 ≤ p_x)) then
 bif (decide (65536 ≤ (shiftI .shr .u64 p_x 32))) then
 bif (decide (256 ≤ (shiftI .shr .u64 (shiftI .shr .u64 p_x 32) 16))) then
 (idx ([0, 1, 2, 2, 3, 3, 3, 3, 4, 4, 4, 4, 4, 4, 4, 4, 5, 5, 5, 5, 5, 5, 5, 5, 5, 5, 5, 5, 5, 5, 5, 5, 6, 6, 6, 6, 6, 6, 6, 6, 6, 6, 6, 6, 6, 6, 6, 6, 6, 6, 6, 6, 6, 6, 6, 6, 6, 6, 6, 6, 6, 6, 6, 6, 7, 7, 7, 7, 7, 7, 7, 7, 7, 7, 7, 7, 7, 7, 7, 7, 7, 7, 7, 7, 7, 7, 7, 7, 7, 7, 7, 7, 7, 7, 7, 7, 7, 7, 7, 7, 7, 7, 7, 7, 7, 7, 7, 7, 7, 7, 7, 7, 7, 7, 7, 7, 7, 7, 7, 7, 7, 7, 7, 7, 7, 7, 7, 7, 8, 8, 8, 8, 8, 8, 8, 8, 8, 8, 8, 8, 8, 8, 8, 8, 8, 8, 8, 8, 8, 8, 8, 8, 8, 8, 8, 8, 8, 8, 8, 8, 8, 8, 8, 8, 8, 8, 8, 8, 8, 8, 8, 8, 8, 8, 8, 8, 8, 8, 8, 8, 8, 8, 8, 8, 8, 8, 8, 8, 8, 8, 8, 8, 8, 8, 8, 8, 8, 8, 8, 8, 8, 8, 8, 8, 8, 8, 8, 8, 8, 8, 8, 8, 8, 8, 8, 8, 8, 8, 8, 8, 8, 8, 8, 8, 8, 8, 8, 8, 8, 8, 8, 8, 8, 8, 8, 8, 8, 8, 8, 8, 8, 8, 8, 8, 8, 8, 8, 8, 8, 8, 8, 8, 8, 8, 8, 8] : Bytes) (IntKind.u8.wrap (shiftI .shr .u64 (shiftI .shr .u64 (shiftI .shr .u64 p_x 32) 16) 8))).bind fun b1 =>
 some (w64 ((w64 ((w64 (32 + 16)) + 8)) + (w64 (b1.toNat : Int))))
 else
 (idx ([0, 1, 2, 2, 3, 3, 3, 3, 4, 4, 4, 4, 4, 4, 4, 4, 5, 5, 5, 5, 5, 5, 5, 5, 5, 5, 5, 5, 5, 5, 5, 5, 6, 6, 6, 6, 6, 6, 6, 6, 6, 6, 6, 6, 6, 6, 6, 6, 6, 6, 6, 6, 6, 6, 6, 6, 6, 6, 6, 6, 6, 6, 6, 6, 7, 7, 7, 7, 7, 7, 7, 7, 7, 7, 7, 7, 7, 7, 7, 7, 7, 7, 7, 7, 7, 7, 7, 7, 7, 7, 7, 7, 7, 7, 7, 7, 7, 7, 7, 7, 7, 7, 7, 7, 7, 7, 7, 7, 7, 7, 7, 7, 7, 7, 7, 7, 7, 7, 7, 7, 7, 7, 7, 7, 7, 7, 7, 7, 8, 8, 8, 8, 8, 8, 8, 8, 8, 8, 8, 8, 8, 8, 8, 8, 8, 8, 8, 8, 8, 8, 8, 8, 8, 8, 8, 8, 8, 8, 8, 8, 8, 8, 8, 8, 8, 8, 8, 8, 8, 8, 8, 8, 8, 8, 8, 8, 8, 8, 8, 8, 8, 8, 8, 8, 8, 8, 8, 8, 8, 8, 8, 8, 8, 8, 8, 8, 8, 8, 8, 8, 8, 8, 8, 8, 8, 8, 8, 8, 8, 8, 8, 8, 8, 8, 8, 8, 8, 8, 8, 8, 8, 8, 8, 8, 8, 8, 8, 8, 8, 8, 8, 8, 8, 8, 8, 8, 8, 8, 8, 8, 8, 8, 8, 8, 8, 8, 8, 8, 8, 8, 8, 8, 8, 8, 8, 8] : Bytes) (IntKind.u8.wrap (shiftI .shr .u64 (shiftI .shr .u64 p_x 32) 16))).bind fun b2 =>
 some (w64 ((w64 (32 + 16)) + (w64 (b2.toNat : Int))))
 else
 bif (decide (256 ≤ (shiftI .shr .u64 p_x 32))) then
 (idx ([0, 1, 2, 2, 3, 3, 3, 3, 4, 4, 4, 4, 4, 4, 4, 4, 5, 5, 5, 5, 5, 5, 5, 5, 5, 5, 5, 5, 5, 5, 5, 5, 6, 6, 6, 6, 6, 6, 6, 6, 6, 6, 6, 6, 6, 6, 6, 6, 6, 6, 6, 6, 6, 6, 6, 6, 6, 6, 6, 6, 6, 6, 6, 6, 7, 7, 7, 7, 7, 7, 7, 7, 7, 7, 7, 7, 7, 7, 7, 7, 7, 7, 7, 7, 7, 7, 7, 7, 7, 7, 7, 7, 7, 7, 7, 7, 7, 7, 7, 7, 7, 7, 7, 7, 7, 7, 7, 7, 7, 7, 7, 7, 7, 7, 7, 7, 7, 7, 7, 7, 7, 7, 7, 7, 7, 7, 7, 7, 8, 8, 8, 8, 8, 8, 8, 8, 8, 8, 8, 8, 8, 8, 8, 8, 8, 8, 8, 8, 8, 8, 8, 8, 8, 8, 8, 8, 8, 8, 8, 8, 8, 8, 8, 8, 8, 8, 8, 8, 8, 8, 8, 8, 8, 8, 8, 8, 8, 8, 8, 8, 8, 8, 8, 8, 8, 8, 8, 8, 8, 8, 8, 8, 8, 8, 8, 8, 8, 8, 8, 8, 8, 8, 8, 8, 8, 8, 8, 8, 8, 8, 8, 8, 8, 8, 8, 8, 8, 8, 8, 8, 8, 8, 8, 8, 8, 8, 8, 8, 8, 8, 8, 8, 8, 8, 8, 8, 8, 8, 8, 8, 8, 8, 8, 8, 8, 8, 8, 8, 8, 8, 8, 8, 8, 8, 8, 8] : Bytes) (IntKind.u8.wrap (shiftI .shr .u64 (shiftI .shr .u64 p_x 32) 8))).bind fun b3 =>
 some (w64 ((w64 (32 + 8)) + (w64 (b3.toNat : Int))))
 else
 (idx ([0, 1, 2, 2, 3, 3, 3, 3, 4, 4, 4, 4, 4, 4, 4, 4, 5, 5, 5, 5, 5, 5, 5, 5, 5, 5, 5, 5, 5, 5, 5, 5, 6, 6, 6, 6, 6, 6, 6, 6, 6, 6, 6, 6, 6, 6, 6, 6, 6, 6, 6, 6, 6, 6, 6, 6, 6, 6, 6, 6, 6, 6, 6, 6, 7, 7, 7, 7, 7, 7, 7, 7, 7, 7, 7, 7, 7, 7, 7, 7, 7, 7, 7, 7, 7, 7, 7, 7, 7, 7, 7, 7, 7, 7, 7, 7, 7, 7, 7, 7, 7, 7, 7, 7, 7, 7, 7, 7, 7, 7, 7, 7, 7, 7, 7, 7, 7, 7, 7, 7, 7, 7, 7, 7, 7, 7, 7, 7, 8, 8, 8, 8, 8, 8, 8, 8, 8, 8, 8, 8, 8, 8, 8, 8, 8, 8, 8, 8, 8, 8, 8, 8, 8, 8, 8, 8, 8, 8, 8, 8, 8, 8, 8, 8, 8, 8, 8, 8, 8, 8, 8, 8, 8, 8, 8, 8, 8, 8, 8, 8, 8, 8, 8, 8, 8, 8, 8, 8, 8, 8, 8, 8, 8, 8, 8, 8, 8, 8, 8, 8, 8, 8, 8, 8, 8, 8, 8, 8, 8, 8, 8, 8, 8, 8, 8, 8, 8, 8, 8, 8, 8, 8, 8, 8, 8, 8, 8, 8, 8, 8, 8, 8, 8, 8, 8, 8, 8, 8, 8, 8, 8, 8, 8, 8, 8, 8, 8, 8, 8, 8, 8, 8, 8, 8, 8, 8] : Bytes) (IntKind.u8.wrap (shiftI .shr .u64 p_x 32))).bind fun b4 =>
 some (w64 (32 + (w64 (b4.toNat : Int))))
 else
 bif (decide (65536 ≤ p_x)) then
 bif (decide (256 ≤ (shiftI .shr .u64 p_x 16))) then
 (idx ([0, 1, 2, 2, 3, 3, 3, 3, 4, 4, 4, 4, 4, 4, 4, 4, 5, 5, 5, 5, 5, 5, 5, 5, 5, 5, 5, 5, 5, 5, 5, 5, 6, 6, 6, 6, 6, 6, 6, 6, 6, 6, 6, 6, 6, 6, 6, 6, 6, 6, 6, 6, 6, 6, 6, 6, 6, 6, 6, 6, 6, 6, 6, 6, 7, 7, 7, 7, 7, 7, 7, 7, 7, 7, 7, 7, 7, 7, 7, 7, 7, 7, 7, 7, 7, 7, 7, 7, 7, 7, 7, 7, 7, 7, 7, 7, 7, 7, 7, 7, 7, 7, 7, 7, 7, 7, 7, 7, 7, 7, 7, 7, 7, 7, 7, 7, 7, 7, 7, 7, 7, 7, 7, 7, 7, 7, 7, 7, 8, 8, 8, 8, 8, 8, 8, 8, 8, 8, 8, 8, 8, 8, 8, 8, 8, 8, 8, 8, 8, 8, 8, 8, 8, 8, 8, 8, 8, 8, 8, 8, 8, 8, 8, 8, 8, 8, 8, 8, 8, 8, 8, 8, 8, 8, 8, 8, 8, 8, 8, 8, 8, 8, 8, 8, 8, 8, 8, 8, 8, 8, 8, 8, 8, 8, 8, 8, 8, 8, 8, 8, 8, 8, 8, 8, 8, 8, 8, 8, 8, 8, 8, 8, 8, 8, 8, 8, 8, 8, 8, 8, 8, 8, 8, 8, 8, 8, 8, 8, 8, 8, 8, 8, 8, 8, 8, 8, 8, 8, 8, 8, 8, 8, 8, 8, 8, 8, 8, 8, 8, 8, 8, 8, 8, 8, 8, 8] : Bytes) (IntKind.u8.wrap (shiftI .shr .u64 (shiftI .shr .u64 p_x 16) 8))).bind fun b5 =>
 some (w64 ((w64 ((w64 (0 + 16)) + 8)) + (w64 (b5.toNat : Int))))
 else
 (idx ([0, 1, 2, 2, 3, 3, 3, 3, 4, 4, 4, 4, 4, 4, 4, 4, 5, 5, 5, 5, 5, 5, 5, 5, 5, 5, 5, 5, 5, 5, 5, 5, 6, 6, 6, 6, 6, 6, 6, 6, 6, 6, 6, 6, 6, 6, 6, 6, 6, 6, 6, 6, 6, 6, 6, 6, 6, 6, 6, 6, 6, 6, 6, 6, 7, 7, 7, 7, 7, 7, 7, 7, 7, 7, 7, 7, 7, 7, 7, 7, 7, 7, 7, 7, 7, 7, 7, 7, 7, 7, 7, 7, 7, 7, 7, 7, 7, 7, 7, 7, 7, 7, 7, 7, 7, 7, 7, 7, 7, 7, 7, 7, 7, 7, 7, 7, 7, 7, 7, 7, 7, 7, 7, 7, 7, 7, 7, 7, 8, 8, 8, 8, 8, 8, 8, 8, 8, 8, 8, 8, 8, 8, 8, 8, 8, 8, 8, 8, 8, 8, 8, 8, 8, 8, 8, 8, 8, 8, 8, 8, 8, 8, 8, 8, 8, 8, 8, 8, 8, 8, 8, 8, 8, 8, 8, 8, 8, 8, 8, 8, 8, 8, 8, 8, 8, 8, 8, 8, 8, 8, 8, 8, 8, 8, 8, 8, 8, 8, 8, 8, 8, 8, 8, 8, 8, 8, 8, 8, 8, 8, 8, 8, 8, 8, 8, 8, 8, 8, 8, 8, 8, 8, 8, 8, 8, 8, 8, 8, 8, 8, 8, 8, 8, 8, 8, 8, 8, 8, 8, 8, 8, 8, 8, 8, 8, 8, 8, 8, 8, 8, 8, 8, 8, 8, 8, 8] : Bytes) (IntKind.u8.wrap (shiftI .shr .u64 p_x 16))).bind fun b6 =>
 some (w64 ((w64 (0 + 16)) + (w64 (b6.toNat : Int))))
 else
 bif (decide (256 ≤ p_x)) then
 (idx ([0, 1, 2, 2, 3, 3, 3, 3, 4, 4, 4, 4, 4, 4, 4, 4, 5, 5, 5, 5, 5, 5, 5, 5, 5, 5, 5, 5, 5, 5, 5, 5, 6, 6, 6, 6, 6, 6, 6, 6, 6, 6, 6, 6, 6, 6, 6, 6, 6, 6, 6, 6, 6, 6, 6, 6, 6, 6, 6, 6, 6, 6, 6, 6, 7, 7, 7, 7, 7, 7, 7, 7, 7, 7, 7, 7, 7, 7, 7, 7, 7, 7, 7, 7, 7, 7, 7, 7, 7, 7, 7, 7, 7, 7, 7, 7, 7, 7, 7, 7, 7, 7, 7, 7, 7, 7, 7, 7, 7, 7, 7, 7, 7, 7, 7, 7, 7, 7, 7, 7, 7, 7, 7, 7, 7, 7, 7, 7, 8, 8, 8, 8, 8, 8, 8, 8, 8, 8, 8, 8, 8, 8, 8, 8, 8, 8, 8, 8, 8, 8, 8, 8, 8, 8, 8, 8, 8, 8, 8, 8, 8, 8, 8, 8, 8, 8, 8, 8, 8, 8, 8, 8, 8, 8, 8, 8, 8, 8, 8, 8, 8, 8, 8, 8, 8, 8, 8, 8, 8, 8, 8, 8, 8, 8, 8, 8, 8, 8, 8, 8, 8, 8, 8, 8, 8, 8, 8, 8, 8, 8, 8, 8, 8, 8, 8, 8, 8, 8, 8, 8, 8, 8, 8, 8, 8, 8, 8, 8, 8, 8, 8, 8, 8, 8, 8, 8, 8, 8, 8, 8, 8, 8, 8, 8, 8, 8, 8, 8, 8, 8, 8, 8, 8, 8, 8, 8] : Bytes) (IntKind.u8.wrap (shiftI .shr .u64 p_x 8))).bind fun b7 =>
 some (w64 ((w64 (0 + 8)) + (w64 (b7.toNat : Int))))
 else
 (idx ([0, 1, 2, 2, 3, 3, 3, 3, 4, 4, 4, 4, 4, 4, 4, 4, 5, 5, 5, 5, 5, 5, 5, 5, 5, 5, 5, 5, 5, 5, 5, 5, 6, 6, 6, 6, 6, 6, 6, 6, 6, 6, 6, 6, 6, 6, 6, 6, 6, 6, 6, 6, 6, 6, 6, 6, 6, 6, 6, 6, 6, 6, 6, 6, 7, 7, 7, 7, 7, 7, 7, 7, 7, 7, 7, 7, 7, 7, 7, 7, 7, 7, 7, 7, 7, 7, 7, 7, 7, 7, 7, 7, 7, 7, 7, 7, 7, 7, 7, 7, 7, 7, 7, 7, 7, 7, 7, 7, 7, 7, 7, 7, 7, 7, 7, 7, 7, 7, 7, 7, 7, 7, 7, 7, 7, 7, 7, 7, 8, 8, 8, 8, 8, 8, 8, 8, 8, 8, 8, 8, 8, 8, 8, 8, 8, 8, 8, 8, 8, 8, 8, 8, 8, 8, 8, 8, 8, 8, 8, 8, 8, 8, 8, 8, 8, 8, 8, 8, 8, 8, 8, 8, 8, 8, 8, 8, 8, 8, 8, 8, 8, 8, 8, 8, 8, 8, 8, 8, 8, 8, 8, 8, 8, 8, 8, 8, 8, 8, 8, 8, 8, 8, 8, 8, 8, 8, 8, 8, 8, 8, 8, 8, 8, 8, 8, 8, 8, 8, 8, 8, 8, 8, 8, 8, 8, 8, 8, 8, 8, 8, 8, 8, 8, 8, 8, 8, 8, 8, 8, 8, 8, 8, 8, 8, 8, 8, 8, 8, 8, 8, 8, 8, 8, 8, 8, 8] : Bytes) (IntKind.u8.wrap p_x)).bind fun b8 =>
 some (w64 (0 + (w64 (b8.toNat : Int))))
def C110 : FnSpec := { ps := [.val (.int .u64)], rs := [.val (.int .i64)], fn := fun x => math_bits_Len64 x }
def E110 : Env := { T := [(3, (.int .i64)), (5, (.int .u8)), (9, .str), (83, (.int .u64))], G := [], ro := [], loops := [], joins := [] }
theorem S110 : Sound Tryz.prog 110 C110 := fun_sound (E := E110) ⟨good_T (by kernel_rfl), good_nil, mixedOk, ins_nil⟩ Tryz.func110 rfl fun _ => by kernel_rfl
def math_bits_Len (p_x : Int) : Option (Int) :=
 bif false then
 (math_bits_Len32 (IntKind.u32.wrap p_x)).bind fun r1 =>
 some r1
 else
 (math_bits_Len64 p_x).bind fun r2 =>
 some r2
def C87 : FnSpec := { ps := [.val (.int .u64)], rs := [.val (.int .i64)], fn := fun x => math_bits_Len x }
def E87 : Env := { T := [(55, (.int .u64)), (130, (.int .u32))], G := [(109, C109), (110, C110)], ro := [], loops := [], joins := [] }
theorem S87 : Sound Tryz.prog 87 C87 := fun_sound (E := E87) ⟨good_T (by kernel_rfl), (good_cons S109 ⟨_, Tryz.func109, by kernel_rfl, by kernel_rfl⟩ (good_cons S110 ⟨_, Tryz.func110, by kernel_rfl, by kernel_rfl⟩ good_nil)), mixedOk, ins_nil⟩ Tryz.func87 rfl fun _ => by kernel_rfl
def slices_Sort_int (p_x : List Int) : Option ((List Int)) :=
 (math_bits_Len (IntKind.u64.wrap (p_x.length : Int))).bind fun r1 =>
 (slices_pdqsortOrdered_int p_x 0 (p_x.length : Int) r1).bind fun r2 =>
 some r2
def C61 : FnSpec := { ps := [.own (.slice (.int .i64))], rs := [], fn := fun x => slices_Sort_int x }
def E61 : Env := { T := [(3, (.int .i64)), (23, (.slice (.int .i64))), (55, (.int .u64))], G := [(86, C86), (87, C87)], ro := [], loops := [], joins := [] }
theorem S61 : Sound Tryz.prog 61 C61 := fun_sound_own (E := E61) ⟨good_T (by kernel_rfl), (good_cons S86 ⟨_, Tryz.func86, by kernel_rfl, by kernel_rfl⟩ (good_cons S87 ⟨_, Tryz.func87, by kernel_rfl, by kernel_rfl⟩ good_nil)), mixedOk, ins_nil⟩ Tryz.func61 rfl rfl fun _ => by kernel_rfl
def i_makeMove (p_l : List GTicket) (p_m : GDeskMove) : Option ((List GTicket) × Bool) :=
 (i_cloneTickets p_l).bind fun r1 =>
 (i_ticketIndex r1 p_m.2.1).bind fun r2 =>
 (bif (decide (p_m.1 = 1)) then
 some (decide (r2 < 0))
 else
 some false).bind fun c3 =>
 bif c3 then
 (loopE (fun (st5 : (List GTicket) × Int) => (
 (bif (decide (st5.2 < (st5.1.length : Int))) then
 bif decide (0 ≤ st5.2) && decide (st5.2 < (st5.1.length : Int)) then
 (st5.1[(Int.toNat st5.2)]?).bind fun e6 =>
 some (decide (e6.1 < p_m.2.1))
 else
 none
 else
 some false).bind fun c7 =>
 bif c7 then
 some (.inl (st5.1, (w64 (st5.2 + 1))))
 else
 some (.inr (st5.1, st5.2)) : Option (((List GTicket) × Int) ⊕ (((List GTicket) × Int))))) (r1, 0)).bind fun o8 =>
 bif decide (0 ≤ o8.2) && decide (o8.2 ≤ (o8.1.length : Int)) && decide (List.length o8.1 ≤ 999999) then
 (i_AreTickets (insV o8.1 o8.2 (p_m.2.1, p_m.2.2.1, [], 0, ()))).bind fun r9 =>
 bif (!r9) then
 some ([], false)
 else
 some ((insV o8.1 o8.2 (p_m.2.1, p_m.2.2.1, [], 0, ())), true)
 else
 none
 else
 (bif (decide (p_m.1 = 2)) then
 some (decide (0 ≤ r2))
 else
 some false).bind fun c10 =>
 (bif c10 then
 bif decide (0 ≤ r2) && decide (r2 < (r1.length : Int)) then
 (r1[(Int.toNat r2)]?).bind fun e11 =>
 some (decide (e11.2.2.2.1 = 0))
 else
 none
 else
 some false).bind fun c12 =>
 (bif c12 then
 bif decide (0 ≤ r2) && decide (r2 < (r1.length : Int)) then
 (r1[(Int.toNat r2)]?).bind fun e13 =>
 (i_within p_m.2.2.1 0 (w64 (e13.2.1 - 1))).bind fun r14 =>
 some r14
 else
 none
 else
 some false).bind fun c15 =>
 bif c15 then
 bif decide (0 ≤ r2) && decide (r2 < (r1.length : Int)) then
 (r1[(Int.toNat r2)]?).bind fun e16 =>
 (slices_Contains_int e16.2.2.1 p_m.2.2.1).bind fun r17 =>
 bif (!r17) then
 (r1[(Int.toNat r2)]?).bind fun e18 =>
 bif decide (List.length e18.2.2.1 + List.length [p_m.2.2.1] ≤ lim) then
 bothSame (
 bif Nat.beq (Int.toNat r2) (Int.toNat r2) then
 ((r1.set (Int.toNat r2) (e18.1, e18.2.1, (e18.2.2.1 ++ [p_m.2.2.1]), e18.2.2.2))[(Int.toNat r2)]?).bind fun e19 =>
 (slices_Sort_int e19.2.2.1).bind fun r20 =>
 (((r1.set (Int.toNat r2) (e18.1, e18.2.1, (e18.2.2.1 ++ [p_m.2.2.1]), e18.2.2.2)).set (Int.toNat r2) (e19.1, e19.2.1, r20, e19.2.2.2))[(Int.toNat r2)]?).bind fun e21 =>
 (((r1.set (Int.toNat r2) (e18.1, e18.2.1, (e18.2.2.1 ++ [p_m.2.2.1]), e18.2.2.2)).set (Int.toNat r2) (e19.1, e19.2.1, r20, e19.2.2.2))[(Int.toNat r2)]?).bind fun e22 =>
 bif (decide ((e21.2.2.1.length : Int) = e22.2.1)) then
 (((r1.set (Int.toNat r2) (e18.1, e18.2.1, (e18.2.2.1 ++ [p_m.2.2.1]), e18.2.2.2)).set (Int.toNat r2) (e19.1, e19.2.1, r20, e19.2.2.2))[(Int.toNat r2)]?).bind fun e23 =>
 (i_AreTickets (((r1.set (Int.toNat r2) (e18.1, e18.2.1, (e18.2.2.1 ++ [p_m.2.2.1]), e18.2.2.2)).set (Int.toNat r2) (e19.1, e19.2.1, r20, e19.2.2.2)).set (Int.toNat r2) (e23.1, e23.2.1, e23.2.2.1, 1, ()))).bind fun r24 =>
 bif (!r24) then
 some ([], false)
 else
 some ((((r1.set (Int.toNat r2) (e18.1, e18.2.1, (e18.2.2.1 ++ [p_m.2.2.1]), e18.2.2.2)).set (Int.toNat r2) (e19.1, e19.2.1, r20, e19.2.2.2)).set (Int.toNat r2) (e23.1, e23.2.1, e23.2.2.1, 1, ())), true)
 else
 (i_AreTickets ((r1.set (Int.toNat r2) (e18.1, e18.2.1, (e18.2.2.1 ++ [p_m.2.2.1]), e18.2.2.2)).set (Int.toNat r2) (e19.1, e19.2.1, r20, e19.2.2.2))).bind fun r25 =>
 bif (!r25) then
 some ([], false)
 else
 some (((r1.set (Int.toNat r2) (e18.1, e18.2.1, (e18.2.2.1 ++ [p_m.2.2.1]), e18.2.2.2)).set (Int.toNat r2) (e19.1, e19.2.1, r20, e19.2.2.2)), true)
 else
 none)
 (
 (r1[(Int.toNat r2)]?).bind fun e26 =>
 ((r1.set (Int.toNat r2) (e26.1, e26.2.1, (e18.2.2.1 ++ [p_m.2.2.1]), e26.2.2.2))[(Int.toNat r2)]?).bind fun e27 =>
 (slices_Sort_int e27.2.2.1).bind fun r28 =>
 (((r1.set (Int.toNat r2) (e26.1, e26.2.1, (e18.2.2.1 ++ [p_m.2.2.1]), e26.2.2.2)).set (Int.toNat r2) (e27.1, e27.2.1, r28, e27.2.2.2))[(Int.toNat r2)]?).bind fun e29 =>
 (((r1.set (Int.toNat r2) (e26.1, e26.2.1, (e18.2.2.1 ++ [p_m.2.2.1]), e26.2.2.2)).set (Int.toNat r2) (e27.1, e27.2.1, r28, e27.2.2.2))[(Int.toNat r2)]?).bind fun e30 =>
 bif (decide ((e29.2.2.1.length : Int) = e30.2.1)) then
 (((r1.set (Int.toNat r2) (e26.1, e26.2.1, (e18.2.2.1 ++ [p_m.2.2.1]), e26.2.2.2)).set (Int.toNat r2) (e27.1, e27.2.1, r28, e27.2.2.2))[(Int.toNat r2)]?).bind fun e31 =>
 (i_AreTickets (((r1.set (Int.toNat r2) (e26.1, e26.2.1, (e18.2.2.1 ++ [p_m.2.2.1]), e26.2.2.2)).set (Int.toNat r2) (e27.1, e27.2.1, r28, e27.2.2.2)).set (Int.toNat r2) (e31.1, e31.2.1, e31.2.2.1, 1, ()))).bind fun r32 =>
 bif (!r32) then
 some ([], false)
 else
 some ((((r1.set (Int.toNat r2) (e26.1, e26.2.1, (e18.2.2.1 ++ [p_m.2.2.1]), e26.2.2.2)).set (Int.toNat r2) (e27.1, e27.2.1, r28, e27.2.2.2)).set (Int.toNat r2) (e31.1, e31.2.1, e31.2.2.1, 1, ())), true)
 else
 (i_AreTickets ((r1.set (Int.toNat r2) (e26.1, e26.2.1, (e18.2.2.1 ++ [p_m.2.2.1]), e26.2.2.2)).set (Int.toNat r2) (e27.1, e27.2.1, r28, e27.2.2.2))).bind fun r33 =>
 bif (!r33) then
 some ([], false)
 else
 some (((r1.set (Int.toNat r2) (e26.1, e26.2.1, (e18.2.2.1 ++ [p_m.2.2.1]), e26.2.2.2)).set (Int.toNat r2) (e27.1, e27.2.1, r28, e27.2.2.2)), true))
 else
 none
 else
 (r1[(Int.toNat r2)]?).bind fun e34 =>
 (r1[(Int.toNat r2)]?).bind fun e35 =>
 bif (decide ((e34.2.2.1.length : Int) = e35.2.1)) then
 (r1[(Int.toNat r2)]?).bind fun e36 =>
 (i_AreTickets (r1.set (Int.toNat r2) (e36.1, e36.2.1, e36.2.2.1, 1, ()))).bind fun r37 =>
 bif (!r37) then
 some ([], false)
 else
 some ((r1.set (Int.toNat r2) (e36.1, e36.2.1, e36.2.2.1, 1, ())), true)
 else
 (i_AreTickets r1).bind fun r38 =>
 bif (!r38) then
 some ([], false)
 else
 some (r1, true)
 else
 none
 else
 (bif (decide (p_m.1 = 3)) then
 some (decide (0 ≤ r2))
 else
 some false).bind fun c39 =>
 (bif c39 then
 bif decide (0 ≤ r2) && decide (r2 < (r1.length : Int)) then
 (r1[(Int.toNat r2)]?).bind fun e40 =>
 some (decide (e40.2.2.2.1 = 0))
 else
 none
 else
 some false).bind fun c41 =>
 bif c41 then
 bif decide (0 ≤ r2) && decide (r2 < (r1.length : Int)) then
 (r1[(Int.toNat r2)]?).bind fun e42 =>
 (i_AreTickets (r1.set (Int.toNat r2) (e42.1, e42.2.1, e42.2.2.1, 2, ()))).bind fun r43 =>
 bif (!r43) then
 some ([], false)
 else
 some ((r1.set (Int.toNat r2) (e42.1, e42.2.1, e42.2.2.1, 2, ())), true)
 else
 none
 else
 some ([], false)
def C34 : FnSpec := { ps := [.val (.slice TGTicket), .val TGDeskMove], rs := [.own (.slice TGTicket), .val .bool], fn := fun x => i_makeMove x.1 x.2 }
def E34 : Env := { T := [(3, (.int .i64)), (23, (.slice (.int .i64))), (32, (.slice TGTicket)), (71, TGDeskMove), (74, TGTicket)], G := [(26, C26), (33, C33), (35, C35), (58, C58), (60, C60), (61, C61)], ro := [3], loops := [(6, { keep := [3], live := [.own 6 [] 160 TGTicket true, .tv 7 (.int .i64)], outs := [(.exit 1, [.own 6 [] 160 TGTicket true, .tv 7 (.int .i64)])] })], joins := [], mv := true, ins := [(59, TGTicket)], hoist := [(12, [0])] }
theorem S34 : Sound Tryz.prog 34 C34 := fun_sound (E := E34) ⟨good_T (by kernel_rfl), (good_cons S26 ⟨_, Tryz.func26, by kernel_rfl, by kernel_rfl⟩ (good_cons S33 ⟨_, Tryz.func33, by kernel_rfl, by kernel_rfl⟩ (good_cons S35 ⟨_, Tryz.func35, by kernel_rfl, by kernel_rfl⟩ (good_cons S58 ⟨_, Tryz.func58, by kernel_rfl, by kernel_rfl⟩ (good_cons S60 ⟨_, Tryz.func60, by kernel_rfl, by kernel_rfl⟩ (good_cons S61 ⟨_, Tryz.func61, by kernel_rfl, by kernel_rfl⟩ good_nil)))))), mixedOk, (ins_cons insOk ⟨_, Tryz.func59, by kernel_rfl, by kernel_rfl⟩ ins_nil)⟩ Tryz.func34 rfl fun _ => by kernel_rfl
def i_AcceptMessage (p_l : List GTicket) (p_message : Int) (p_parts : Int) : Option ((List GTicket) × Bool) :=
 (i_AreTickets p_l).bind fun r1 =>
 bif (!r1) then
 some ([], false)
 else
 (i_makeMove p_l (1, p_message, p_parts, ())).bind fun r2 =>
 some (r2.1, r2.2)
def C10 : FnSpec := { ps := [.val (.slice TGTicket), .val (.int .i64), .val (.int .i64)], rs := [.own (.slice TGTicket), .val .bool], fn := fun x => i_AcceptMessage x.1 x.2.1 x.2.2 }
def E10 : Env := { T := [(71, TGDeskMove)], G := [(33, C33), (34, C34)], ro := [], loops := [], joins := [] }
theorem S10 : Sound Tryz.prog 10 C10 := fun_sound (E := E10) ⟨good_T (by kernel_rfl), (good_cons S33 ⟨_, Tryz.func33, by kernel_rfl, by kernel_rfl⟩ (good_cons S34 ⟨_, Tryz.func34, by kernel_rfl, by kernel_rfl⟩ good_nil)), mixedOk, ins_nil⟩ Tryz.func10 rfl fun _ => by kernel_rfl
def l_qHas (p_l : List Int) (p_n : Int) : Option (Bool) :=
 (loopE (fun (st2 : Int) => (
 bif (decide (st2 < (p_l.length : Int))) then
 (idx p_l st2).bind fun e3 =>
 bif (decide (e3 = p_n)) then
 some (.inr (.inr true))
 else
 some (.inl (w64 (st2 + 1)))
 else
 some (.inr (.inl ())) : Option ((Int) ⊕ (Unit ⊕ Bool)))) 0).bind fun o4 =>
 match o4 with
 | .inl _ =>
  some false
 | .inr y6 =>
  some y6
def C11 : FnSpec := { ps := [.val (.slice (.int .i64)), .val (.int .i64)], rs := [.val .bool], fn := fun x => l_qHas x.1 x.2 }
def E11 : Env := { T := [(3, (.int .i64)), (23, (.slice (.int .i64)))], G := [], ro := [], loops := [(2, { keep := [1, 7, 8], live := [.tv 9 (.int .i64)], outs := [(.exit 0, []), (.ret, [.tv 4 .bool])] })], joins := [] }
theorem S11 : Sound Tryz.prog 11 C11 := fun_sound (E := E11) ⟨good_T (by kernel_rfl), good_nil, mixedOk, ins_nil⟩ Tryz.func11 rfl fun _ => by kernel_rfl
def i_NoteArrival (p_l : List GTicket) (p_message : Int) (p_part : Int) : Option ((List GTicket) × Bool) :=
 (i_AreTickets p_l).bind fun r1 =>
 bif (!r1) then
 some ([], false)
 else
 (i_makeMove p_l (2, p_message, p_part, ())).bind fun r2 =>
 some (r2.1, r2.2)
def C12 : FnSpec := { ps := [.val (.slice TGTicket), .val (.int .i64), .val (.int .i64)], rs := [.own (.slice TGTicket), .val .bool], fn := fun x => i_NoteArrival x.1 x.2.1 x.2.2 }
def E12 : Env := { T := [(71, TGDeskMove)], G := [(33, C33), (34, C34)], ro := [], loops := [], joins := [] }
theorem S12 : Sound Tryz.prog 12 C12 := fun_sound (E := E12) ⟨good_T (by kernel_rfl), (good_cons S33 ⟨_, Tryz.func33, by kernel_rfl, by kernel_rfl⟩ (good_cons S34 ⟨_, Tryz.func34, by kernel_rfl, by kernel_rfl⟩ good_nil)), mixedOk, ins_nil⟩ Tryz.func12 rfl fun _ => by kernel_rfl
def i_StandingOf (p_l : List GTicket) (p_message : Int) : Option (Int × Int × Bool) :=
 (i_ticketIndex p_l p_message).bind fun r1 =>
 (i_AreTickets p_l).bind fun r2 =>
 (bif (!r2) then
 some true
 else
 some (decide (r1 < 0))).bind fun c3 =>
 bif c3 then
 some (0, 0, false)
 else
 (idx p_l r1).bind fun e4 =>
 (idx p_l r1).bind fun e5 =>
 (idx p_l r1).bind fun e6 =>
 some (e4.2.2.2.1, (w64 (e5.2.1 - (e6.2.2.1.length : Int))), true)
def C13 : FnSpec := { ps := [.val (.slice TGTicket), .val (.int .i64)], rs := [.val (.int .i64), .val (.int .i64), .val .bool], fn := fun x => i_StandingOf x.1 x.2 }
def E13 : Env := { T := [(3, (.int .i64)), (23, (.slice (.int .i64))), (32, (.slice TGTicket)), (74, TGTicket)], G := [(33, C33), (35, C35)], ro := [], loops := [], joins := [] }
theorem S13 : Sound Tryz.prog 13 C13 := fun_sound (E := E13) ⟨good_T (by kernel_rfl), (good_cons S33 ⟨_, Tryz.func33, by kernel_rfl, by kernel_rfl⟩ (good_cons S35 ⟨_, Tryz.func35, by kernel_rfl, by kernel_rfl⟩ good_nil)), mixedOk, ins_nil⟩ Tryz.func13 rfl fun _ => by kernel_rfl
def i_IsPacket (p_p : GPacket) : Option (Bool) :=
 (i_within p_p.1 1 999).bind fun r1 =>
 (bif r1 then
 (i_within p_p.2.2.1 1 9).bind fun r2 =>
 some r2
 else
 some false).bind fun c3 =>
 (bif c3 then
 (i_within p_p.2.1 0 (w64 (p_p.2.2.1 - 1))).bind fun r4 =>
 some r4
 else
 some false).bind fun c5 =>
 (bif c5 then
 (i_within (p_p.2.2.2.1.length : Int) 1 8).bind fun r6 =>
 some r6
 else
 some false).bind fun c7 =>
 (bif c7 then
 (i_allWithin p_p.2.2.2.1 1 60).bind fun r8 =>
 some r8
 else
 some false).bind fun c9 =>
 some c9
def C89 : FnSpec := { ps := [.val TGPacket], rs := [.val .bool], fn := fun x => i_IsPacket x }
def E89 : Env := { T := [(3, (.int .i64)), (23, (.slice (.int .i64))), (37, TGPacket)], G := [(26, C26), (27, C27)], ro := [1], loops := [], joins := [] }
theorem S89 : Sound Tryz.prog 89 C89 := fun_sound (E := E89) ⟨good_T (by kernel_rfl), (good_cons S26 ⟨_, Tryz.func26, by kernel_rfl, by kernel_rfl⟩ (good_cons S27 ⟨_, Tryz.func27, by kernel_rfl, by kernel_rfl⟩ good_nil)), mixedOk, ins_nil⟩ Tryz.func89 rfl fun _ => by kernel_rfl
def i_ArePackets_1 (p_p : GPacket) : Option (Bool) :=
 (i_IsPacket p_p).bind fun r1 =>
 some (!r1)
def C88 : FnSpec := { ps := [.val TGPacket], rs := [.val .bool], fn := fun x => i_ArePackets_1 x }
def E88 : Env := { T := [(37, TGPacket)], G := [(89, C89)], ro := [1], loops := [], joins := [] }
theorem S88 : Sound Tryz.prog 88 C88 := fun_sound (E := E88) ⟨good_T (by kernel_rfl), (good_cons S89 ⟨_, Tryz.func89, by kernel_rfl, by kernel_rfl⟩ good_nil), mixedOk, ins_nil⟩ Tryz.func88 rfl fun _ => by kernel_rfl
def slices_IndexFunc_Packet_88 (p_s : List GPacket) : Option (Int) :=
 (loopE (fun (st2 : Int) => (
 bif (decide (st2 < (p_s.length : Int))) then
 (idx p_s st2).bind fun e3 =>
 (i_ArePackets_1 e3).bind fun r4 =>
 bif r4 then
 some (.inr (.inr st2))
 else
 some (.inl (w64 (st2 + 1)))
 else
 some (.inr (.inl ())) : Option ((Int) ⊕ (Unit ⊕ Int)))) 0).bind fun o5 =>
 match o5 with
 | .inl _ =>
  some (-1)
 | .inr y7 =>
  some y7
def C38_88 : FnSpec := { ps := [.val (.slice TGPacket), .fn 88 []], rs := [.val (.int .i64)], fn := fun x => slices_IndexFunc_Packet_88 x.1 }
def E38_88 : Env := { T := [(29, (.slice TGPacket)), (37, TGPacket)], G := [(88, C88)], ro := [], loops := [(2, { keep := [0, 1, 7], live := [.tv 8 (.int .i64)], outs := [(.exit 0, []), (.ret, [.tv 4 (.int .i64)])] })], joins := [] }
theorem S38_88 : Sound Tryz.prog 38 C38_88 := fun_sound (E := E38_88) ⟨good_T (by kernel_rfl), (good_cons S88 ⟨_, Tryz.func88, by kernel_rfl, by kernel_rfl⟩ good_nil), mixedOk, ins_nil⟩ Tryz.func38 rfl fun _ => by kernel_rfl
def slices_ContainsFunc_Packet_88 (p_s : List GPacket) : Option (Bool) :=
 (slices_IndexFunc_Packet_88 p_s).bind fun r1 =>
 some (decide (0 ≤ r1))
def C65_88 : FnSpec := { ps := [.val (.slice TGPacket), .fn 88 []], rs := [.val .bool], fn := fun x => slices_ContainsFunc_Packet_88 x.1 }
def E65_88 : Env := { T := [], G := [(38, C38_88)], ro := [], loops := [], joins := [] }
theorem S65_88 : Sound Tryz.prog 65 C65_88 := fun_sound (E := E65_88) ⟨good_T (by kernel_rfl), (good_cons S38_88 ⟨_, Tryz.func38, by kernel_rfl, by kernel_rfl⟩ good_nil), mixedOk, ins_nil⟩ Tryz.func65 rfl fun _ => by kernel_rfl
def i_ArePackets (p_l : List GPacket) : Option (Bool) :=
 (bif (decide ((p_l.length : Int) ≤ 40)) then
 (slices_ContainsFunc_Packet_88 p_l).bind fun r1 =>
 some (!r1)
 else
 some false).bind fun c2 =>
 some c2
def C64 : FnSpec := { ps := [.val (.slice TGPacket)], rs := [.val .bool], fn := fun x => i_ArePackets x }
def E64 : Env := { T := [(29, (.slice TGPacket))], G := [(65, C65_88)], ro := [], loops := [], joins := [] }
theorem S64 : Sound Tryz.prog 64 C64 := fun_sound (E := E64) ⟨good_T (by kernel_rfl), (good_cons S65_88 ⟨_, Tryz.func65, by kernel_rfl, by kernel_rfl⟩ good_nil), mixedOk, ins_nil⟩ Tryz.func64 rfl fun _ => by kernel_rfl
def slices_Equal_int (p_s1 : List Int) (p_s2 : List Int) : Option (Bool) :=
 bif (!decide ((p_s1.length : Int) = (p_s2.length : Int))) then
 some false
 else
 (loopE (fun (st2 : Int) => (
 bif (decide (st2 < (p_s1.length : Int))) then
 (idx p_s1 st2).bind fun e3 =>
 (idx p_s2 st2).bind fun e4 =>
 bif (!decide (e3 = e4)) then
 some (.inr (.inr false))
 else
 some (.inl (w64 (st2 + 1)))
 else
 some (.inr (.inl ())) : Option ((Int) ⊕ (Unit ⊕ Bool)))) 0).bind fun o5 =>
 match o5 with
 | .inl _ =>
  some true
 | .inr y7 =>
  some y7
def C72 : FnSpec := { ps := [.val (.slice (.int .i64)), .val (.slice (.int .i64))], rs := [.val .bool], fn := fun x => slices_Equal_int x.1 x.2 }
def E72 : Env := { T := [(3, (.int .i64)), (23, (.slice (.int .i64)))], G := [], ro := [], loops := [(4, { keep := [0, 1, 12], live := [.tv 13 (.int .i64)], outs := [(.exit 0, []), (.ret, [.tv 4 .bool])] })], joins := [] }
theorem S72 : Sound Tryz.prog 72 C72 := fun_sound (E := E72) ⟨good_T (by kernel_rfl), good_nil, mixedOk, ins_nil⟩ Tryz.func72 rfl fun _ => by kernel_rfl
def i_inConflict (p_a : GPacket) (p_b : GPacket) : Option (Bool) :=
 (bif (decide (p_a.1 = p_b.1)) then
 (bif (!decide (p_a.2.2.1 = p_b.2.2.1)) then
 some true
 else
 (bif (decide (p_a.2.1 = p_b.2.1)) then
 (slices_Equal_int p_a.2.2.2.1 p_b.2.2.2.1).bind fun r1 =>
 some (!r1)
 else
 some false).bind fun c2 =>
 some c2).bind fun c3 =>
 some c3
 else
 some false).bind fun c4 =>
 some c4
def C67 : FnSpec := { ps := [.val TGPacket, .val TGPacket], rs := [.val .bool], fn := fun x => i_inConflict x.1 x.2 }
def E67 : Env := { T := [(3, (.int .i64)), (23, (.slice (.int .i64))), (37, TGPacket)], G := [(72, C72)], ro := [2, 3], loops := [], joins := [] }
theorem S67 : Sound Tryz.prog 67 C67 := fun_sound (E := E67) ⟨good_T (by kernel_rfl), (good_cons S72 ⟨_, Tryz.func72, by kernel_rfl, by kernel_rfl⟩ good_nil), mixedOk, ins_nil⟩ Tryz.func67 rfl fun _ => by kernel_rfl
def i_packetsOf_1 (p_q : GPacket) (p_a1 : GPacket) : Option (Bool) :=
 (i_inConflict p_a1 p_q).bind fun r1 =>
 some r1
def C66 : FnSpec := { ps := [.val TGPacket, .rp TGPacket], rs := [.val .bool], fn := fun x => i_packetsOf_1 x.1 x.2 }
def E66 : Env := { T := [(37, TGPacket)], G := [(67, C67)], ro := [2], loops := [], joins := [] }
theorem S66 : Sound Tryz.prog 66 C66 := fun_sound (E := E66) ⟨good_T (by kernel_rfl), (good_cons S67 ⟨_, Tryz.func67, by kernel_rfl, by kernel_rfl⟩ good_nil), mixedOk, ins_nil⟩ Tryz.func66 rfl fun _ => by kernel_rfl
def slices_IndexFunc_Packet_66 (p_s : List GPacket) (p_f : GPacket × Unit) : Option (Int) :=
 (loopE (fun (st2 : Int) => (
 bif (decide (st2 < (p_s.length : Int))) then
 (idx p_s st2).bind fun e3 =>
 (i_packetsOf_1 e3 p_f.1).bind fun r4 =>
 bif r4 then
 some (.inr (.inr st2))
 else
 some (.inl (w64 (st2 + 1)))
 else
 some (.inr (.inl ())) : Option ((Int) ⊕ (Unit ⊕ Int)))) 0).bind fun o5 =>
 match o5 with
 | .inl _ =>
  some (-1)
 | .inr y7 =>
  some y7
def C38_66 : FnSpec := { ps := [.val (.slice TGPacket), .fn 66 [TGPacket]], rs := [.val (.int .i64)], fn := fun x => slices_IndexFunc_Packet_66 x.1 x.2 }
def E38_66 : Env := { T := [(29, (.slice TGPacket)), (37, TGPacket)], G := [(66, C66)], ro := [], loops := [(2, { keep := [0, 1, 7], live := [.tv 8 (.int .i64)], outs := [(.exit 0, []), (.ret, [.tv 4 (.int .i64)])] })], joins := [] }
theorem S38_66 : Sound Tryz.prog 38 C38_66 := fun_sound (E := E38_66) ⟨good_T (by kernel_rfl), (good_cons S66 ⟨_, Tryz.func66, by kernel_rfl, by kernel_rfl⟩ good_nil), mixedOk, ins_nil⟩ Tryz.func38 rfl fun _ => by kernel_rfl
def slices_ContainsFunc_Packet_66 (p_s : List GPacket) (p_f : GPacket × Unit) : Option (Bool) :=
 (slices_IndexFunc_Packet_66 p_s p_f).bind fun r1 =>
 some (decide (0 ≤ r1))
def C65_66 : FnSpec := { ps := [.val (.slice TGPacket), .fn 66 [TGPacket]], rs := [.val .bool], fn := fun x => slices_ContainsFunc_Packet_66 x.1 x.2 }
def E65_66 : Env := { T := [], G := [(38, C38_66)], ro := [], loops := [], joins := [] }
theorem S65_66 : Sound Tryz.prog 65 C65_66 := fun_sound (E := E65_66) ⟨good_T (by kernel_rfl), (good_cons S38_66 ⟨_, Tryz.func38, by kernel_rfl, by kernel_rfl⟩ good_nil), mixedOk, ins_nil⟩ Tryz.func65 rfl fun _ => by kernel_rfl
def i_packetsOf (p_l : List GPacket) (p_message : Int) : Option ((List GPacket) × Bool) :=
 (i_ArePackets p_l).bind fun r1 =>
 (bif (!r1) then
 some true
 else
 (i_within p_message 1 999).bind fun r2 =>
 some (!r2)).bind fun c3 =>
 bif c3 then
 some ([], false)
 else
 (loopE (fun (st6 : (List GPacket) × Int) => (
 bif (decide (st6.2 < (p_l.length : Int))) then
 (idx p_l st6.2).bind fun e7 =>
 bif (!decide (e7.1 = p_message)) then
 some (.inl (st6.1, (w64 (st6.2 + 1))))
 else
 (slices_ContainsFunc_Packet_66 st6.1 (e7, ())).bind fun r8 =>
 bif r8 then
 some (.inr (.inr ([], false)))
 else
 bif decide (List.length st6.1 + List.length [e7] ≤ lim) then
 some (.inl ((st6.1 ++ [e7]), (w64 (st6.2 + 1))))
 else
 none
 else
 some (.inr (.inl st6.1)) : Option (((List GPacket) × Int) ⊕ ((List GPacket) ⊕ ((List GPacket) × Bool))))) ([], 0)).bind fun o9 =>
 match o9 with
 | .inl x10 =>
  some (x10, (decide (0 < (x10.length : Int))))
 | .inr y11 =>
  some (y11.1, y11.2)
def C36 : FnSpec := { ps := [.val (.slice TGPacket), .val (.int .i64)], rs := [.val (.slice TGPacket), .val .bool], fn := fun x => i_packetsOf x.1 x.2 }
def E36 : Env := { T := [(3, (.int .i64)), (29, (.slice TGPacket)), (37, TGPacket)], G := [(26, C26), (64, C64), (65, C65_66)], ro := [], loops := [(5, { keep := [1, 17, 18], live := [.own 6 [] 200006 TGPacket false, .tv 19 (.int .i64)], outs := [(.exit 0, [.own 6 [] 200006 TGPacket false]), (.ret, [.own 4 [] 200004 TGPacket true, .tv 5 .bool])] })], joins := [], preb := [(8, [(128, TGPacket)])] }
theorem S36 : Sound Tryz.prog 36 C36 := fun_sound (E := E36) ⟨good_T (by kernel_rfl), (good_cons S26 ⟨_, Tryz.func26, by kernel_rfl, by kernel_rfl⟩ (good_cons S64 ⟨_, Tryz.func64, by kernel_rfl, by kernel_rfl⟩ (good_cons S65_66 ⟨_, Tryz.func65, by kernel_rfl, by kernel_rfl⟩ good_nil))), mixedOk, ins_nil⟩ Tryz.func36 rfl fun _ => by kernel_rfl
def i_missingParts_1 (p_p : GPacket) (p_a1 : Int) : Option (Bool) :=
 some (decide (p_p.2.1 = p_a1))
def C68 : FnSpec := { ps := [.val TGPacket, .rp (.int .i64)], rs := [.val .bool], fn := fun x => i_missingParts_1 x.1 x.2 }
def E68 : Env := { T := [(3, (.int .i64)), (37, TGPacket)], G := [], ro := [2], loops := [], joins := [] }
theorem S68 : Sound Tryz.prog 68 C68 := fun_sound (E := E68) ⟨good_T (by kernel_rfl), good_nil, mixedOk, ins_nil⟩ Tryz.func68 rfl fun _ => by kernel_rfl
def slices_IndexFunc_Packet_68 (p_s : List GPacket) (p_f : Int × Unit) : Option (Int) :=
 (loopE (fun (st2 : Int) => (
 bif (decide (st2 < (p_s.length : Int))) then
 (idx p_s st2).bind fun e3 =>
 (i_missingParts_1 e3 p_f.1).bind fun r4 =>
 bif r4 then
 some (.inr (.inr st2))
 else
 some (.inl (w64 (st2 + 1)))
 else
 some (.inr (.inl ())) : Option ((Int) ⊕ (Unit ⊕ Int)))) 0).bind fun o5 =>
 match o5 with
 | .inl _ =>
  some (-1)
 | .inr y7 =>
  some y7
def C38_68 : FnSpec := { ps := [.val (.slice TGPacket), .fn 68 [(.int .i64)]], rs := [.val (.int .i64)], fn := fun x => slices_IndexFunc_Packet_68 x.1 x.2 }
def E38_68 : Env := { T := [(29, (.slice TGPacket)), (37, TGPacket)], G := [(68, C68)], ro := [], loops := [(2, { keep := [0, 1, 7], live := [.tv 8 (.int .i64)], outs := [(.exit 0, []), (.ret, [.tv 4 (.int .i64)])] })], joins := [] }
theorem S38_68 : Sound Tryz.prog 38 C38_68 := fun_sound (E := E38_68) ⟨good_T (by kernel_rfl), (good_cons S68 ⟨_, Tryz.func68, by kernel_rfl, by kernel_rfl⟩ good_nil), mixedOk, ins_nil⟩ Tryz.func38 rfl fun _ => by kernel_rfl
def slices_ContainsFunc_Packet_68 (p_s : List GPacket) (p_f : Int × Unit) : Option (Bool) :=
 (slices_IndexFunc_Packet_68 p_s p_f).bind fun r1 =>
 some (decide (0 ≤ r1))
def C65_68 : FnSpec := { ps := [.val (.slice TGPacket), .fn 68 [(.int .i64)]], rs := [.val .bool], fn := fun x => slices_ContainsFunc_Packet_68 x.1 x.2 }
def E65_68 : Env := { T := [], G := [(38, C38_68)], ro := [], loops := [], joins := [] }
theorem S65_68 : Sound Tryz.prog 65 C65_68 := fun_sound (E := E65_68) ⟨good_T (by kernel_rfl), (good_cons S38_68 ⟨_, Tryz.func38, by kernel_rfl, by kernel_rfl⟩ good_nil), mixedOk, ins_nil⟩ Tryz.func65 rfl fun _ => by kernel_rfl
def i_missingParts (p_own : List GPacket) : Option ((List Int)) :=
 (idx p_own 0).bind fun e1 =>
 (loopE (fun (st3 : (List Int) × Int) => (
 bif (decide (st3.2 < e1.2.2.1)) then
 (slices_ContainsFunc_Packet_68 p_own (st3.2, ())).bind fun r4 =>
 bif (!r4) then
 bif decide (List.length st3.1 + List.length [st3.2] ≤ lim) then
 some (.inl ((st3.1 ++ [st3.2]), (w64 (st3.2 + 1))))
 else
 none
 else
 some (.inl (st3.1, (w64 (st3.2 + 1))))
 else
 some (.inr st3.1) : Option (((List Int) × Int) ⊕ ((List Int))))) ([], 0)).bind fun o5 =>
 some o5
def C37 : FnSpec := { ps := [.val (.slice TGPacket)], rs := [.own (.slice (.int .i64))], fn := fun x => i_missingParts x }
def E37 : Env := { T := [(3, (.int .i64)), (23, (.slice (.int .i64))), (29, (.slice TGPacket)), (37, TGPacket)], G := [(65, C65_68)], ro := [], loops := [(3, { keep := [0, 8], live := [.own 3 [] 200003 (.int .i64) true, .tv 9 (.int .i64)], outs := [(.exit 0, [.own 3 [] 200003 (.int .i64) true])] })], joins := [], preb := [(5, [(64, (.int .i64))])] }
theorem S37 : Sound Tryz.prog 37 C37 := fun_sound (E := E37) ⟨good_T (by kernel_rfl), (good_cons S65_68 ⟨_, Tryz.func65, by kernel_rfl, by kernel_rfl⟩ good_nil), mixedOk, ins_nil⟩ Tryz.func37 rfl fun _ => by kernel_rfl
def i_JoinMessage_1 (p_p : GPacket) (p_a1 : Int) : Option (Bool) :=
 some (decide (p_p.2.1 = p_a1))
def C39 : FnSpec := { ps := [.val TGPacket, .rp (.int .i64)], rs := [.val .bool], fn := fun x => i_JoinMessage_1 x.1 x.2 }
def E39 : Env := { T := [(3, (.int .i64)), (37, TGPacket)], G := [], ro := [2], loops := [], joins := [] }
theorem S39 : Sound Tryz.prog 39 C39 := fun_sound (E := E39) ⟨good_T (by kernel_rfl), good_nil, mixedOk, ins_nil⟩ Tryz.func39 rfl fun _ => by kernel_rfl
def slices_IndexFunc_Packet_39 (p_s : List GPacket) (p_f : Int × Unit) : Option (Int) :=
 (loopE (fun (st2 : Int) => (
 bif (decide (st2 < (p_s.length : Int))) then
 (idx p_s st2).bind fun e3 =>
 (i_JoinMessage_1 e3 p_f.1).bind fun r4 =>
 bif r4 then
 some (.inr (.inr st2))
 else
 some (.inl (w64 (st2 + 1)))
 else
 some (.inr (.inl ())) : Option ((Int) ⊕ (Unit ⊕ Int)))) 0).bind fun o5 =>
 match o5 with
 | .inl _ =>
  some (-1)
 | .inr y7 =>
  some y7
def C38_39 : FnSpec := { ps := [.val (.slice TGPacket), .fn 39 [(.int .i64)]], rs := [.val (.int .i64)], fn := fun x => slices_IndexFunc_Packet_39 x.1 x.2 }
def E38_39 : Env := { T := [(29, (.slice TGPacket)), (37, TGPacket)], G := [(39, C39)], ro := [], loops := [(2, { keep := [0, 1, 7], live := [.tv 8 (.int .i64)], outs := [(.exit 0, []), (.ret, [.tv 4 (.int .i64)])] })], joins := [] }
theorem S38_39 : Sound Tryz.prog 38 C38_39 := fun_sound (E := E38_39) ⟨good_T (by kernel_rfl), (good_cons S39 ⟨_, Tryz.func39, by kernel_rfl, by kernel_rfl⟩ good_nil), mixedOk, ins_nil⟩ Tryz.func38 rfl fun _ => by kernel_rfl
def i_JoinMessage (p_l : List GPacket) (p_message : Int) : Option ((List Int) × Bool) :=
 (i_packetsOf p_l p_message).bind fun r1 =>
 (bif (!r1.2) then
 some true
 else
 (i_missingParts r1.1).bind fun r2 =>
 some (decide (0 < (r2.length : Int)))).bind fun c3 =>
 bif c3 then
 some ([], false)
 else
 (idx r1.1 0).bind fun e4 =>
 (loopE (fun (st6 : (List Int) × Int) => (
 bif (decide (st6.2 < e4.2.2.1)) then
 (slices_IndexFunc_Packet_39 r1.1 (st6.2, ())).bind fun r7 =>
 (idx r1.1 r7).bind fun e8 =>
 bif decide (List.length st6.1 + List.length e8.2.2.2.1 ≤ lim) then
 some (.inl ((st6.1 ++ e8.2.2.2.1), (w64 (st6.2 + 1))))
 else
 none
 else
 some (.inr st6.1) : Option (((List Int) × Int) ⊕ ((List Int))))) ([], 0)).bind fun o9 =>
 some (o9, true)
def C14 : FnSpec := { ps := [.val (.slice TGPacket), .val (.int .i64)], rs := [.own (.slice (.int .i64)), .val .bool], fn := fun x => i_JoinMessage x.1 x.2 }
def E14 : Env := { T := [(3, (.int .i64)), (23, (.slice (.int .i64))), (29, (.slice TGPacket)), (37, TGPacket)], G := [(36, C36), (37, C37), (38, C38_39)], ro := [], loops := [(6, { keep := [6, 28], live := [.own 8 [] 200008 (.int .i64) true, .tv 29 (.int .i64)], outs := [(.exit 0, [.own 8 [] 200008 (.int .i64) true])] })], joins := [], preb := [(8, [(144, (.int .i64))])] }
theorem S14 : Sound Tryz.prog 14 C14 := fun_sound (E := E14) ⟨good_T (by kernel_rfl), (good_cons S36 ⟨_, Tryz.func36, by kernel_rfl, by kernel_rfl⟩ (good_cons S37 ⟨_, Tryz.func37, by kernel_rfl, by kernel_rfl⟩ (good_cons S38_39 ⟨_, Tryz.func38, by kernel_rfl, by kernel_rfl⟩ good_nil))), mixedOk, ins_nil⟩ Tryz.func14 rfl fun _ => by kernel_rfl
def i_IsEntry (p_e : GEntry) : Option (Bool) :=
 (i_within p_e.1 0 10000).bind fun r1 =>
 (bif r1 then
 (i_within p_e.2.1 1 999).bind fun r2 =>
 some r2
 else
 some false).bind fun c3 =>
 (bif c3 then
 (i_within p_e.2.2.1 0 8).bind fun r4 =>
 some r4
 else
 some false).bind fun c5 =>
 (bif c5 then
 (i_within (p_e.2.2.2.1.length : Int) 1 8).bind fun r6 =>
 some r6
 else
 some false).bind fun c7 =>
 (bif c7 then
 (i_allWithin p_e.2.2.2.1 0 63).bind fun r8 =>
 some r8
 else
 some false).bind fun c9 =>
 (bif c9 then
 (i_within (p_e.2.2.2.2.1.length : Int) 1 8).bind fun r10 =>
 some r10
 else
 some false).bind fun c11 =>
 (bif c11 then
 (i_allWithin p_e.2.2.2.2.1 0 63).bind fun r12 =>
 some r12
 else
 some false).bind fun c13 =>
 some c13
def C91 : FnSpec := { ps := [.val TGEntry], rs := [.val .bool], fn := fun x => i_IsEntry x }
def E91 : Env := { T := [(3, (.int .i64)), (23, (.slice (.int .i64))), (40, TGEntry)], G := [(26, C26), (27, C27)], ro := [1], loops := [], joins := [] }
theorem S91 : Sound Tryz.prog 91 C91 := fun_sound (E := E91) ⟨good_T (by kernel_rfl), (good_cons S26 ⟨_, Tryz.func26, by kernel_rfl, by kernel_rfl⟩ (good_cons S27 ⟨_, Tryz.func27, by kernel_rfl, by kernel_rfl⟩ good_nil)), mixedOk, ins_nil⟩ Tryz.func91 rfl fun _ => by kernel_rfl
def i_entryIndex_1 (p_e : GEntry) (p_a1 : Int) (p_a2 : Int) : Option (Bool) :=
 (bif (decide (p_e.2.1 = p_a1)) then
 some (decide (p_e.2.2.1 = p_a2))
 else
 some false).bind fun c1 =>
 some c1
def C112 : FnSpec := { ps := [.val TGEntry, .rp (.int .i64), .rp (.int .i64)], rs := [.val .bool], fn := fun x => i_entryIndex_1 x.1 x.2.1 x.2.2 }
def E112 : Env := { T := [(3, (.int .i64)), (40, TGEntry)], G := [], ro := [3], loops := [], joins := [] }
theorem S112 : Sound Tryz.prog 112 C112 := fun_sound (E := E112) ⟨good_T (by kernel_rfl), good_nil, mixedOk, ins_nil⟩ Tryz.func112 rfl fun _ => by kernel_rfl
def slices_IndexFunc_Entry_112 (p_s : List GEntry) (p_f : Int × Int × Unit) : Option (Int) :=
 (loopE (fun (st2 : Int) => (
 bif (decide (st2 < (p_s.length : Int))) then
 (idx p_s st2).bind fun e3 =>
 (i_entryIndex_1 e3 p_f.1 p_f.2.1).bind fun r4 =>
 bif r4 then
 some (.inr (.inr st2))
 else
 some (.inl (w64 (st2 + 1)))
 else
 some (.inr (.inl ())) : Option ((Int) ⊕ (Unit ⊕ Int)))) 0).bind fun o5 =>
 match o5 with
 | .inl _ =>
  some (-1)
 | .inr y7 =>
  some y7
def C111_112 : FnSpec := { ps := [.val (.slice TGEntry), .fn 112 [(.int .i64), (.int .i64)]], rs := [.val (.int .i64)], fn := fun x => slices_IndexFunc_Entry_112 x.1 x.2 }
def E111_112 : Env := { T := [(35, (.slice TGEntry)), (40, TGEntry)], G := [(112, C112)], ro := [], loops := [(2, { keep := [0, 1, 7], live := [.tv 8 (.int .i64)], outs := [(.exit 0, []), (.ret, [.tv 4 (.int .i64)])] })], joins := [] }
theorem S111_112 : Sound Tryz.prog 111 C111_112 := fun_sound (E := E111_112) ⟨good_T (by kernel_rfl), (good_cons S112 ⟨_, Tryz.func112, by kernel_rfl, by kernel_rfl⟩ good_nil), mixedOk, ins_nil⟩ Tryz.func111 rfl fun _ => by kernel_rfl
def i_entryIndex (p_l : List GEntry) (p_message : Int) (p_part : Int) : Option (Int) :=
 (slices_IndexFunc_Entry_112 p_l (p_message, p_part, ())).bind fun r1 =>
 some r1
def C92 : FnSpec := { ps := [.val (.slice TGEntry), .val (.int .i64), .val (.int .i64)], rs := [.val (.int .i64)], fn := fun x => i_entryIndex x.1 x.2.1 x.2.2 }
def E92 : Env := { T := [(3, (.int .i64))], G := [(111, C111_112)], ro := [4, 5], loops := [], joins := [] }
theorem S92 : Sound Tryz.prog 92 C92 := fun_sound (E := E92) ⟨good_T (by kernel_rfl), (good_cons S111_112 ⟨_, Tryz.func111, by kernel_rfl, by kernel_rfl⟩ good_nil), mixedOk, ins_nil⟩ Tryz.func92 rfl fun _ => by kernel_rfl
def i_IsLog (p_l : List GEntry) : Option (Bool) :=
 bif (decide (30 < (p_l.length : Int))) then
 some false
 else
 (loopE (fun (st2 : Int) => (
 bif (decide (st2 < (p_l.length : Int))) then
 (idx p_l st2).bind fun e3 =>
 (i_IsEntry e3).bind fun r4 =>
 (bif (!r4) then
 some true
 else
 (bif (decide (0 < st2)) then
 (idx p_l (w64 (st2 - 1))).bind fun e5 =>
 some (decide (e3.1 < e5.1))
 else
 some false).bind fun c6 =>
 some c6).bind fun c7 =>
 (bif c7 then
 some true
 else
 (sub p_l 0 st2).bind fun l8 =>
 (i_entryIndex l8 e3.2.1 e3.2.2.1).bind fun r9 =>
 some (decide (0 ≤ r9))).bind fun c10 =>
 bif c10 then
 some (.inr (.inr false))
 else
 some (.inl (w64 (st2 + 1)))
 else
 some (.inr (.inl ())) : Option ((Int) ⊕ (Unit ⊕ Bool)))) 0).bind fun o11 =>
 match o11 with
 | .inl _ =>
  some true
 | .inr y13 =>
  some y13
def C71 : FnSpec := { ps := [.val (.slice TGEntry)], rs := [.val .bool], fn := fun x => i_IsLog x }
def E71 : Env := { T := [(3, (.int .i64)), (35, (.slice TGEntry)), (40, TGEntry)], G := [(91, C91), (92, C92)], ro := [], loops := [(4, { keep := [0, 8, 9], live := [.tv 10 (.int .i64)], outs := [(.exit 0, []), (.ret, [.tv 2 .bool])] })], joins := [] }
theorem S71 : Sound Tryz.prog 71 C71 := fun_sound (E := E71) ⟨good_T (by kernel_rfl), (good_cons S91 ⟨_, Tryz.func91, by kernel_rfl, by kernel_rfl⟩ (good_cons S92 ⟨_, Tryz.func92, by kernel_rfl, by kernel_rfl⟩ good_nil)), mixedOk, ins_nil⟩ Tryz.func71 rfl fun _ => by kernel_rfl
def i_AreLogs_1 (p_l : List GEntry) : Option (Bool) :=
 (i_IsLog p_l).bind fun r1 =>
 some (!r1)
def C70 : FnSpec := { ps := [.val (.slice TGEntry)], rs := [.val .bool], fn := fun x => i_AreLogs_1 x }
def E70 : Env := { T := [], G := [(71, C71)], ro := [], loops := [], joins := [] }
theorem S70 : Sound Tryz.prog 70 C70 := fun_sound (E := E70) ⟨good_T (by kernel_rfl), (good_cons S71 ⟨_, Tryz.func71, by kernel_rfl, by kernel_rfl⟩ good_nil), mixedOk, ins_nil⟩ Tryz.func70 rfl fun _ => by kernel_rfl
def slices_IndexFunc_Entry_70 (p_s : List (List GEntry)) : Option (Int) :=
 (loopE (fun (st2 : Int) => (
 bif (decide (st2 < (p_s.length : Int))) then
 (idx p_s st2).bind fun e3 =>
 (i_AreLogs_1 e3).bind fun r4 =>
 bif r4 then
 some (.inr (.inr st2))
 else
 some (.inl (w64 (st2 + 1)))
 else
 some (.inr (.inl ())) : Option ((Int) ⊕ (Unit ⊕ Int)))) 0).bind fun o5 =>
 match o5 with
 | .inl _ =>
  some (-1)
 | .inr y7 =>
  some y7
def C90_70 : FnSpec := { ps := [.val (.slice (.slice TGEntry)), .fn 70 []], rs := [.val (.int .i64)], fn := fun x => slices_IndexFunc_Entry_70 x.1 }
def E90_70 : Env := { T := [(35, (.slice TGEntry)), (46, (.slice (.slice TGEntry)))], G := [(70, C70)], ro := [], loops := [(2, { keep := [0, 1, 7], live := [.tv 8 (.int .i64)], outs := [(.exit 0, []), (.ret, [.tv 4 (.int .i64)])] })], joins := [] }
theorem S90_70 : Sound Tryz.prog 90 C90_70 := fun_sound (E := E90_70) ⟨good_T (by kernel_rfl), (good_cons S70 ⟨_, Tryz.func70, by kernel_rfl, by kernel_rfl⟩ good_nil), mixedOk, ins_nil⟩ Tryz.func90 rfl fun _ => by kernel_rfl
def slices_ContainsFunc_Entry_70 (p_s : List (List GEntry)) : Option (Bool) :=
 (slices_IndexFunc_Entry_70 p_s).bind fun r1 =>
 some (decide (0 ≤ r1))
def C69_70 : FnSpec := { ps := [.val (.slice (.slice TGEntry)), .fn 70 []], rs := [.val .bool], fn := fun x => slices_ContainsFunc_Entry_70 x.1 }
def E69_70 : Env := { T := [], G := [(90, C90_70)], ro := [], loops := [], joins := [] }
theorem S69_70 : Sound Tryz.prog 69 C69_70 := fun_sound (E := E69_70) ⟨good_T (by kernel_rfl), (good_cons S90_70 ⟨_, Tryz.func90, by kernel_rfl, by kernel_rfl⟩ good_nil), mixedOk, ins_nil⟩ Tryz.func69 rfl fun _ => by kernel_rfl
def i_AreLogs (p_logs : List (List GEntry)) : Option (Bool) :=
 (i_within (p_logs.length : Int) 1 8).bind fun r1 =>
 (bif r1 then
 (slices_ContainsFunc_Entry_70 p_logs).bind fun r2 =>
 some (!r2)
 else
 some false).bind fun c3 =>
 some c3
def C40 : FnSpec := { ps := [.val (.slice (.slice TGEntry))], rs := [.val .bool], fn := fun x => i_AreLogs x }
def E40 : Env := { T := [(46, (.slice (.slice TGEntry)))], G := [(26, C26), (69, C69_70)], ro := [], loops := [], joins := [] }
theorem S40 : Sound Tryz.prog 40 C40 := fun_sound (E := E40) ⟨good_T (by kernel_rfl), (good_cons S26 ⟨_, Tryz.func26, by kernel_rfl, by kernel_rfl⟩ (good_cons S69_70 ⟨_, Tryz.func69, by kernel_rfl, by kernel_rfl⟩ good_nil)), mixedOk, ins_nil⟩ Tryz.func40 rfl fun _ => by kernel_rfl
def i_pairFaults (p_a : List GEntry) (p_b : List GEntry) : Option ((List (List Int))) :=
 (loopE (fun (st2 : (List (List Int)) × Int) => (
 bif (decide (st2.2 < (p_a.length : Int))) then
 (idx p_a st2.2).bind fun e3 =>
 (i_entryIndex p_b e3.2.1 e3.2.2.1).bind fun r4 =>
 bif (decide (r4 < 0)) then
 bif (decide (0 < 1)) then
 bif decide (List.length st2.1 + List.length [[e3.2.1, e3.2.2.1, 1]] ≤ lim) then
 some (.inl ((st2.1 ++ [[e3.2.1, e3.2.2.1, 1]]), (w64 (st2.2 + 1))))
 else
 none
 else
 some (.inl (st2.1, (w64 (st2.2 + 1))))
 else
 (idx p_b r4).bind fun e5 =>
 (slices_Equal_int e5.2.2.2.1 e3.2.2.2.2.1).bind fun r6 =>
 bif (!r6) then
 bif (decide (0 < 2)) then
 bif decide (List.length st2.1 + List.length [[e3.2.1, e3.2.2.1, 2]] ≤ lim) then
 some (.inl ((st2.1 ++ [[e3.2.1, e3.2.2.1, 2]]), (w64 (st2.2 + 1))))
 else
 none
 else
 some (.inl (st2.1, (w64 (st2.2 + 1))))
 else
 (idx p_b r4).bind fun e7 =>
 bif (decide (e7.1 < e3.1)) then
 bif (decide (0 < 3)) then
 bif decide (List.length st2.1 + List.length [[e3.2.1, e3.2.2.1, 3]] ≤ lim) then
 some (.inl ((st2.1 ++ [[e3.2.1, e3.2.2.1, 3]]), (w64 (st2.2 + 1))))
 else
 none
 else
 some (.inl (st2.1, (w64 (st2.2 + 1))))
 else
 bif (decide (0 < 0)) then
 bif decide (List.length st2.1 + List.length [[e3.2.1, e3.2.2.1, 0]] ≤ lim) then
 some (.inl ((st2.1 ++ [[e3.2.1, e3.2.2.1, 0]]), (w64 (st2.2 + 1))))
 else
 none
 else
 some (.inl (st2.1, (w64 (st2.2 + 1))))
 else
 some (.inr st2.1) : Option (((List (List Int)) × Int) ⊕ ((List (List Int)))))) ([], 0)).bind fun o8 =>
 (loopE (fun (st10 : (List (List Int)) × Int) => (
 bif (decide (st10.2 < (p_b.length : Int))) then
 (idx p_b st10.2).bind fun e11 =>
 (i_entryIndex p_a e11.2.1 e11.2.2.1).bind fun r12 =>
 bif (decide (r12 < 0)) then
 bif decide (List.length st10.1 + List.length [[e11.2.1, e11.2.2.1, 4]] ≤ lim) then
 some (.inl ((st10.1 ++ [[e11.2.1, e11.2.2.1, 4]]), (w64 (st10.2 + 1))))
 else
 none
 else
 some (.inl (st10.1, (w64 (st10.2 + 1))))
 else
 some (.inr st10.1) : Option (((List (List Int)) × Int) ⊕ ((List (List Int)))))) (o8, 0)).bind fun o13 =>
 some o13
def C73 : FnSpec := { ps := [.val (.slice TGEntry), .val (.slice TGEntry)], rs := [.own (.slice (.slice (.int .i64)))], fn := fun x => i_pairFaults x.1 x.2 }
def E73 : Env := { T := [(3, (.int .i64)), (23, (.slice (.int .i64))), (35, (.slice TGEntry)), (40, TGEntry), (48, (.slice (.slice (.int .i64))))], G := [(72, C72), (92, C92)], ro := [], loops := [(3, { keep := [0, 1, 12, 13], live := [.own 5 [] 200005 (.slice (.int .i64)) true, .tv 14 (.int .i64)], outs := [(.exit 0, [.own 5 [] 200005 (.slice (.int .i64)) true])] }), (17, { keep := [0, 58, 59], live := [.own 5 [] 200005 (.slice (.int .i64)) true, .tv 60 (.int .i64)], outs := [(.exit 3, [.own 5 [] 200005 (.slice (.int .i64)) true])] })], joins := [], mv := true }
theorem S73 : Sound Tryz.prog 73 C73 := fun_sound (E := E73) ⟨good_T (by kernel_rfl), (good_cons S72 ⟨_, Tryz.func72, by kernel_rfl, by kernel_rfl⟩ (good_cons S92 ⟨_, Tryz.func92, by kernel_rfl, by kernel_rfl⟩ good_nil)), mixedOk, ins_nil⟩ Tryz.func73 rfl fun _ => by kernel_rfl
def i_lineFaults (p_logs : List (List GEntry)) : Option ((List (List Int))) :=
 (loopE (fun (st2 : (List (List Int)) × Int) => (
 bif (decide (st2.2 < (p_logs.length : Int))) then
 (idx p_logs st2.2).bind fun e3 =>
 (loopE (fun (st5 : (List (List Int)) × Int) => (
 bif (decide (st5.2 < (e3.length : Int))) then
 (idx e3 st5.2).bind fun e6 =>
 (slices_Equal_int e6.2.2.2.1 e6.2.2.2.2.1).bind fun r7 =>
 bif (!r7) then
 bif decide (List.length st5.1 + List.length [[e6.2.1, e6.2.2.1, 5, st2.2]] ≤ lim) then
 some (.inl ((st5.1 ++ [[e6.2.1, e6.2.2.1, 5, st2.2]]), (w64 (st5.2 + 1))))
 else
 none
 else
 some (.inl (st5.1, (w64 (st5.2 + 1))))
 else
 some (.inr st5.1) : Option (((List (List Int)) × Int) ⊕ ((List (List Int)))))) (st2.1, 0)).bind fun o8 =>
 bif (decide ((w64 (st2.2 + 1)) < (p_logs.length : Int))) then
 (idx p_logs (w64 (st2.2 + 1))).bind fun e9 =>
 (i_pairFaults e3 e9).bind fun r10 =>
 (loopE (fun (st12 : (List (List Int)) × Int × (List (List Int)) × Int) => (
 bif (decide (st12.2.2.2 < (r10.length : Int))) then
 bif decide (0 ≤ st12.2.2.2) && decide (st12.2.2.2 < (st12.2.2.1.length : Int)) then
 bif Nat.beq (Int.toNat st12.2.2.2) (Int.toNat st12.2.1) then
 (st12.2.2.1[Int.toNat st12.2.1]?).bind fun e13 =>
 bif decide (List.length e13 + List.length [st2.2] ≤ lim) then
 bif decide (List.length st12.1 + List.length [(e13 ++ [st2.2])] ≤ lim) then
 some (.inl ((st12.1 ++ [(e13 ++ [st2.2])]), ((Int.toNat st12.2.1 + 1 : Nat) : Int), st12.2.2.1, (w64 (st12.2.2.2 + 1))))
 else
 none
 else
 none
 else
 none
 else
 none
 else
 some (.inr st12.1) : Option (((List (List Int)) × Int × (List (List Int)) × Int) ⊕ ((List (List Int)))))) (o8, 0, r10, 0)).bind fun o14 =>
 some (.inl (o14, (w64 (st2.2 + 1))))
 else
 some (.inl (o8, (w64 (st2.2 + 1))))
 else
 some (.inr st2.1) : Option (((List (List Int)) × Int) ⊕ ((List (List Int)))))) ([], 0)).bind fun o15 =>
 some o15
def C41 : FnSpec := { ps := [.val (.slice (.slice TGEntry))], rs := [.own (.slice (.slice (.int .i64)))], fn := fun x => i_lineFaults x }
def E41 : Env := { T := [(3, (.int .i64)), (23, (.slice (.int .i64))), (35, (.slice TGEntry)), (40, TGEntry), (46, (.slice (.slice TGEntry))), (48, (.slice (.slice (.int .i64))))], G := [(72, C72), (73, C73)], ro := [], loops := [(3, { keep := [0, 10, 11], live := [.own 3 [] 200003 (.slice (.int .i64)) true, .tv 12 (.int .i64)], outs := [(.exit 0, [.own 3 [] 200003 (.slice (.int .i64)) true])] }), (6, { keep := [0, 4, 5, 10, 11, 12, 17, 18], live := [.own 3 [] 200003 (.slice (.int .i64)) true, .tv 19 (.int .i64)], outs := [(.exit 2, [.own 3 [] 200003 (.slice (.int .i64)) true])] }), (13, { keep := [0, 4, 10, 11, 12, 51], live := [.own 3 [] 200003 (.slice (.int .i64)) true, .src 50 800 (.slice (.int .i64)), .tv 52 (.int .i64)], outs := [(.exit 4, [.own 3 [] 200003 (.slice (.int .i64)) true])] })], joins := [], mv := true }
theorem S41 : Sound Tryz.prog 41 C41 := fun_sound (E := E41) ⟨good_T (by kernel_rfl), (good_cons S72 ⟨_, Tryz.func72, by kernel_rfl, by kernel_rfl⟩ (good_cons S73 ⟨_, Tryz.func73, by kernel_rfl, by kernel_rfl⟩ good_nil)), mixedOk, ins_nil⟩ Tryz.func41 rfl fun _ => by kernel_rfl
def i_IsTrueLine (p_logs : List (List GEntry)) : Option (Bool × Bool) :=
 (i_AreLogs p_logs).bind fun r1 =>
 bif (!r1) then
 some (false, false)
 else
 (i_lineFaults p_logs).bind fun r2 =>
 some ((decide ((r2.length : Int) = 0)), true)
def C15 : FnSpec := { ps := [.val (.slice (.slice TGEntry))], rs := [.val .bool, .val .bool], fn := fun x => i_IsTrueLine x }
def E15 : Env := { T := [(48, (.slice (.slice (.int .i64))))], G := [(40, C40), (41, C41)], ro := [], loops := [], joins := [] }
theorem S15 : Sound Tryz.prog 15 C15 := fun_sound (E := E15) ⟨good_T (by kernel_rfl), (good_cons S40 ⟨_, Tryz.func40, by kernel_rfl, by kernel_rfl⟩ (good_cons S41 ⟨_, Tryz.func41, by kernel_rfl, by kernel_rfl⟩ good_nil)), mixedOk, ins_nil⟩ Tryz.func15 rfl fun _ => by kernel_rfl
def i_partAsked (p_logs : List (List GEntry)) (p_message : Int) (p_part : Int) : Option (Bool) :=
 (i_AreLogs p_logs).bind fun r1 =>
 (bif r1 then
 (i_within p_message 1 999).bind fun r2 =>
 some r2
 else
 some false).bind fun c3 =>
 (bif c3 then
 (i_within p_part 0 8).bind fun r4 =>
 some r4
 else
 some false).bind fun c5 =>
 some c5
def C42 : FnSpec := { ps := [.val (.slice (.slice TGEntry)), .val (.int .i64), .val (.int .i64)], rs := [.val .bool], fn := fun x => i_partAsked x.1 x.2.1 x.2.2 }
def E42 : Env := { T := [], G := [(26, C26), (40, C40)], ro := [], loops := [], joins := [] }
theorem S42 : Sound Tryz.prog 42 C42 := fun_sound (E := E42) ⟨good_T (by kernel_rfl), (good_cons S26 ⟨_, Tryz.func26, by kernel_rfl, by kernel_rfl⟩ (good_cons S40 ⟨_, Tryz.func40, by kernel_rfl, by kernel_rfl⟩ good_nil)), mixedOk, ins_nil⟩ Tryz.func42 rfl fun _ => by kernel_rfl
def i_FirstFault (p_logs : List (List GEntry)) (p_message : Int) (p_part : Int) : Option (Int × Int × Bool) :=
 (i_partAsked p_logs p_message p_part).bind fun r1 =>
 bif (!r1) then
 some (0, 0, false)
 else
 (i_lineFaults p_logs).bind fun r2 =>
 (loopE (fun (st5 : (List (List Int)) × Int) => (
 bif (decide (st5.2 < (r2.length : Int))) then
 (idx st5.1 st5.2).bind fun e6 =>
 (idx e6 0).bind fun e7 =>
 (bif (decide (e7 = p_message)) then
 (idx e6 1).bind fun e8 =>
 some (decide (e8 = p_part))
 else
 some false).bind fun c9 =>
 bif c9 then
 (idx e6 2).bind fun e10 =>
 (idx e6 3).bind fun e11 =>
 some (.inr (.inr (e10, e11, true)))
 else
 some (.inl (st5.1, (w64 (st5.2 + 1))))
 else
 some (.inr (.inl ())) : Option (((List (List Int)) × Int) ⊕ (Unit ⊕ (Int × Int × Bool))))) (r2, 0)).bind fun o12 =>
 match o12 with
 | .inl _ =>
  some (0, 0, false)
 | .inr y14 =>
  some (y14.1, y14.2.1, y14.2.2)
def C16 : FnSpec := { ps := [.val (.slice (.slice TGEntry)), .val (.int .i64), .val (.int .i64)], rs := [.val (.int .i64), .val (.int .i64), .val .bool], fn := fun x => i_FirstFault x.1 x.2.1 x.2.2 }
def E16 : Env := { T := [(3, (.int .i64)), (23, (.slice (.int .i64))), (48, (.slice (.slice (.int .i64))))], G := [(41, C41), (42, C42)], ro := [], loops := [(4, { keep := [1, 2, 18], live := [.tv 17 (.slice (.slice (.int .i64))), .tv 19 (.int .i64)], outs := [(.exit 0, []), (.ret, [.tv 6 (.int .i64), .tv 7 (.int .i64), .tv 8 .bool])] })], joins := [], pre := [(5, [272])] }
theorem S16 : Sound Tryz.prog 16 C16 := fun_sound (E := E16) ⟨good_T (by kernel_rfl), (good_cons S41 ⟨_, Tryz.func41, by kernel_rfl, by kernel_rfl⟩ (good_cons S42 ⟨_, Tryz.func42, by kernel_rfl, by kernel_rfl⟩ good_nil)), mixedOk, ins_nil⟩ Tryz.func16 rfl fun _ => by kernel_rfl
def i_LineFaults (p_logs : List (List GEntry)) : Option ((List (List Int)) × Bool) :=
 (i_AreLogs p_logs).bind fun r1 =>
 bif (!r1) then
 some ([], false)
 else
 (i_lineFaults p_logs).bind fun r2 =>
 some (r2, true)
def C17 : FnSpec := { ps := [.val (.slice (.slice TGEntry))], rs := [.own (.slice (.slice (.int .i64))), .val .bool], fn := fun x => i_LineFaults x }
def E17 : Env := { T := [], G := [(40, C40), (41, C41)], ro := [], loops := [], joins := [] }
theorem S17 : Sound Tryz.prog 17 C17 := fun_sound (E := E17) ⟨good_T (by kernel_rfl), (good_cons S40 ⟨_, Tryz.func40, by kernel_rfl, by kernel_rfl⟩ (good_cons S41 ⟨_, Tryz.func41, by kernel_rfl, by kernel_rfl⟩ good_nil)), mixedOk, ins_nil⟩ Tryz.func17 rfl fun _ => by kernel_rfl
def s_lgSignals (p_l : List Int) : Option (Bool) :=
 (s_l1In (p_l.length : Int) 1 8).bind fun r1 =>
 (bif r1 then
 (s_l1All p_l 0 63).bind fun r2 =>
 some r2
 else
 some false).bind fun c3 =>
 some c3
def C113 : FnSpec := { ps := [.val (.slice (.int .i64))], rs := [.val .bool], fn := fun x => s_lgSignals x }
def E113 : Env := { T := [(23, (.slice (.int .i64)))], G := [(30, C30), (31, C31)], ro := [], loops := [], joins := [] }
theorem S113 : Sound Tryz.prog 113 C113 := fun_sound (E := E113) ⟨good_T (by kernel_rfl), (good_cons S30 ⟨_, Tryz.func30, by kernel_rfl, by kernel_rfl⟩ (good_cons S31 ⟨_, Tryz.func31, by kernel_rfl, by kernel_rfl⟩ good_nil)), mixedOk, ins_nil⟩ Tryz.func113 rfl fun _ => by kernel_rfl
def s_lgEntry (p_e : GEntry) : Option (Bool) :=
 (s_l1In p_e.1 0 10000).bind fun r1 =>
 (bif r1 then
 (s_l1In p_e.2.1 1 999).bind fun r2 =>
 some r2
 else
 some false).bind fun c3 =>
 (bif c3 then
 (s_l1In p_e.2.2.1 0 8).bind fun r4 =>
 some r4
 else
 some false).bind fun c5 =>
 (bif c5 then
 (s_lgSignals p_e.2.2.2.1).bind fun r6 =>
 some r6
 else
 some false).bind fun c7 =>
 (bif c7 then
 (s_lgSignals p_e.2.2.2.2.1).bind fun r8 =>
 some r8
 else
 some false).bind fun c9 =>
 some c9
def C94 : FnSpec := { ps := [.val TGEntry], rs := [.val .bool], fn := fun x => s_lgEntry x }
def E94 : Env := { T := [(3, (.int .i64)), (23, (.slice (.int .i64))), (40, TGEntry)], G := [(30, C30), (113, C113)], ro := [1], loops := [], joins := [] }
theorem S94 : Sound Tryz.prog 94 C94 := fun_sound (E := E94) ⟨good_T (by kernel_rfl), (good_cons S30 ⟨_, Tryz.func30, by kernel_rfl, by kernel_rfl⟩ (good_cons S113 ⟨_, Tryz.func113, by kernel_rfl, by kernel_rfl⟩ good_nil)), mixedOk, ins_nil⟩ Tryz.func94 rfl fun _ => by kernel_rfl
def s_lgFind (p_l : List GEntry) (p_message : Int) (p_part : Int) : Option (Int) :=
 (loopE (fun (st2 : Int) => (
 bif (decide (st2 < (p_l.length : Int))) then
 (idx p_l st2).bind fun e3 =>
 (bif (decide (e3.2.1 = p_message)) then
 some (decide (e3.2.2.1 = p_part))
 else
 some false).bind fun c4 =>
 bif c4 then
 some (.inr (.inr st2))
 else
 some (.inl (w64 (st2 + 1)))
 else
 some (.inr (.inl ())) : Option ((Int) ⊕ (Unit ⊕ Int)))) 0).bind fun o5 =>
 match o5 with
 | .inl _ =>
  some (-1)
 | .inr y7 =>
  some y7
def C95 : FnSpec := { ps := [.val (.slice TGEntry), .val (.int .i64), .val (.int .i64)], rs := [.val (.int .i64)], fn := fun x => s_lgFind x.1 x.2.1 x.2.2 }
def E95 : Env := { T := [(3, (.int .i64)), (35, (.slice TGEntry)), (40, TGEntry)], G := [], ro := [], loops := [(2, { keep := [1, 2, 9, 10], live := [.tv 11 (.int .i64)], outs := [(.exit 0, []), (.ret, [.tv 6 (.int .i64)])] })], joins := [] }
theorem S95 : Sound Tryz.prog 95 C95 := fun_sound (E := E95) ⟨good_T (by kernel_rfl), good_nil, mixedOk, ins_nil⟩ Tryz.func95 rfl fun _ => by kernel_rfl
def s_lgGood (p_l : List GEntry) : Option (Bool) :=
 (loopE (fun (st2 : Int) => (
 bif (decide (st2 < (p_l.length : Int))) then
 (idx p_l st2).bind fun e3 =>
 (s_lgEntry e3).bind fun r4 =>
 (bif (!r4) then
 some true
 else
 (s_lgFind p_l e3.2.1 e3.2.2.1).bind fun r5 =>
 some (!decide (r5 = st2))).bind fun c6 =>
 (bif c6 then
 some true
 else
 (bif (decide (0 < st2)) then
 (idx p_l (w64 (st2 - 1))).bind fun e7 =>
 some (decide (e3.1 < e7.1))
 else
 some false).bind fun c8 =>
 some c8).bind fun c9 =>
 bif c9 then
 some (.inr (.inr false))
 else
 some (.inl (w64 (st2 + 1)))
 else
 some (.inr (.inl ())) : Option ((Int) ⊕ (Unit ⊕ Bool)))) 0).bind fun o10 =>
 match o10 with
 | .inl _ =>
  some (decide ((p_l.length : Int) ≤ 30))
 | .inr y12 =>
  some y12
def C75 : FnSpec := { ps := [.val (.slice TGEntry)], rs := [.val .bool], fn := fun x => s_lgGood x }
def E75 : Env := { T := [(3, (.int .i64)), (35, (.slice TGEntry)), (40, TGEntry)], G := [(94, C94), (95, C95)], ro := [], loops := [(2, { keep := [0, 5, 6], live := [.tv 7 (.int .i64)], outs := [(.exit 0, []), (.ret, [.tv 2 .bool])] })], joins := [] }
theorem S75 : Sound Tryz.prog 75 C75 := fun_sound (E := E75) ⟨good_T (by kernel_rfl), (good_cons S94 ⟨_, Tryz.func94, by kernel_rfl, by kernel_rfl⟩ (good_cons S95 ⟨_, Tryz.func95, by kernel_rfl, by kernel_rfl⟩ good_nil)), mixedOk, ins_nil⟩ Tryz.func75 rfl fun _ => by kernel_rfl
def s_l1Cur_content (p_c : Gl1Cur) : Option (Gl1Cur × Int) :=
 (s_l1Cur_pick p_c 60).bind fun r1 =>
 some (r1.1, (w64 (1 + r1.2)))
def C114 : FnSpec := { ps := [.mbox TGl1Cur], rs := [.val (.int .i64)], fn := fun x => s_l1Cur_content x }
def E114 : Env := { T := [], G := [(74, C74)], ro := [], loops := [], joins := [] }
theorem S114 : Sound Tryz.prog 114 C114 := fun_sound_box (E := E114) ⟨good_T (by kernel_rfl), (good_cons S74 ⟨_, Tryz.func74, by kernel_rfl, by kernel_rfl⟩ good_nil), mixedOk, ins_nil⟩ Tryz.func114 rfl fun _ => by kernel_rfl
def s_l1Cur_contents (p_c : Gl1Cur) (p_n : Int) : Option (Gl1Cur × (List Int)) :=
 (loopE (fun (st2 : (List Int) × Int × Int × Int × (List Int)) => (
 bif (decide (0 < st2.2.2.2.1)) then
 (s_l1Cur_content (st2.1, st2.2.1, st2.2.2.1, ())).bind fun r3 =>
 (s_l1Cur_content r3.1).bind fun r4 =>
 (s_l1Cur_among r4.1 [1, 5, 12, 60, r3.2, r4.2]).bind fun r5 =>
 bif decide (List.length st2.2.2.2.2 + List.length [r5.2] ≤ lim) then
 some (.inl (r5.1.1, r5.1.2.1, r5.1.2.2.1, (w64 (st2.2.2.2.1 - 1)), (st2.2.2.2.2 ++ [r5.2])))
 else
 none
 else
 some (.inr (st2.1, st2.2.1, st2.2.2.1, st2.2.2.2.2)) : Option (((List Int) × Int × Int × Int × (List Int)) ⊕ (((List Int) × Int × Int × (List Int)))))) (p_c.1, p_c.2.1, p_c.2.2.1, p_n, [])).bind fun o6 =>
 some ((o6.1, o6.2.1, o6.2.2.1, ()), o6.2.2.2)
def C97 : FnSpec := { ps := [.mbox TGl1Cur, .val (.int .i64)], rs := [.own (.slice (.int .i64))], fn := fun x => s_l1Cur_contents x.1 x.2 }
def E97 : Env := { T := [(23, (.slice (.int .i64)))], G := [(52, C52), (114, C114)], ro := [], loops := [(2, { keep := [], live := [.bx 0 100000 [.pv (.slice (.int .u8)), .pv (.int .i64), .pv (.int .u64)], .tv 1 (.int .i64), .own 5 [] 200005 (.int .i64) true], outs := [(.exit 0, [.bx 0 100000 [.pv (.slice (.int .u8)), .pv (.int .i64), .pv (.int .u64)], .own 5 [] 200005 (.int .i64) true])] })], joins := [] }
theorem S97 : Sound Tryz.prog 97 C97 := fun_sound_box (E := E97) ⟨good_T (by kernel_rfl), (good_cons S52 ⟨_, Tryz.func52, by kernel_rfl, by kernel_rfl⟩ (good_cons S114 ⟨_, Tryz.func114, by kernel_rfl, by kernel_rfl⟩ good_nil)), mixedOk, ins_nil⟩ Tryz.func97 rfl fun _ => by kernel_rfl
def s_l1Cur_entry (p_c : Gl1Cur) (p_time : Int) : Option (Gl1Cur × GEntry) :=
 (s_l1Cur_among p_c [1, 7, 12, 999]).bind fun r1 =>
 (s_l1Cur_pick r1.1 4).bind fun r2 =>
 (s_l1Cur_pick r2.1 3).bind fun r3 =>
 (s_l1Cur_contents r3.1 (w64 (1 + r3.2))).bind fun r4 =>
 (((s_l1Cur_one r4.1 24).bind fun r5 =>
 bif r5.2 then
 (s_l1Cur_pick r5.1 2).bind fun r6 =>
 (s_l1Cur_contents r6.1 (w64 (8 + r6.2))).bind fun r7 =>
 some (r7.1.1, r7.1.2.1, r7.1.2.2.1, 0, 0, 0, [], [], p_time, r1.2, r2.2, r7.2, [])
 else
 some (r5.1.1, r5.1.2.1, r5.1.2.2.1, 0, 0, 0, [], [], p_time, r1.2, r2.2, r4.2, []) : Option (((List Int) × Int × Int × Int × Int × Int × (List Int) × (List Int) × Int × Int × Int × (List Int) × (List Int))))).bind fun j8 =>
 (s_l1Own j8.2.2.2.2.2.2.2.2.2.2.2.1).bind fun r9 =>
 (s_l1Cur_one (j8.1, j8.2.1, j8.2.2.1, ()) 5).bind fun r10 =>
 bif r10.2 then
 (s_l1Cur_pick r10.1 (r9.length : Int)).bind fun r11 =>
 (s_l1Cur_pick r11.1 64).bind fun r12 =>
 bif decide (0 ≤ r11.2) && decide (r11.2 < (r9.length : Int)) then
 (s_l1Cur_pick r12.1 40).bind fun r13 =>
 bif (decide (r13.2 = 0)) then
 (s_l1Cur_among r13.1 [(-1), 10000, 10001]).bind fun r14 =>
 some (r14.1, (r14.2, j8.2.2.2.2.2.2.2.2.2.1, j8.2.2.2.2.2.2.2.2.2.2.1, j8.2.2.2.2.2.2.2.2.2.2.2.1, (r9.set (Int.toNat r11.2) r12.2), ()))
 else
 bif (decide (r13.2 = 1)) then
 (s_l1Cur_among r13.1 [0, 1000]).bind fun r15 =>
 some (r15.1, (j8.2.2.2.2.2.2.2.2.1, r15.2, j8.2.2.2.2.2.2.2.2.2.2.1, j8.2.2.2.2.2.2.2.2.2.2.2.1, (r9.set (Int.toNat r11.2) r12.2), ()))
 else
 bif (decide (r13.2 = 2)) then
 (s_l1Cur_among r13.1 [(-1), 8, 9]).bind fun r16 =>
 some (r16.1, (j8.2.2.2.2.2.2.2.2.1, j8.2.2.2.2.2.2.2.2.2.1, r16.2, j8.2.2.2.2.2.2.2.2.2.2.2.1, (r9.set (Int.toNat r11.2) r12.2), ()))
 else
 bif (decide (r13.2 = 3)) then
 some (r13.1, (j8.2.2.2.2.2.2.2.2.1, j8.2.2.2.2.2.2.2.2.2.1, j8.2.2.2.2.2.2.2.2.2.2.1, [], (r9.set (Int.toNat r11.2) r12.2), ()))
 else
 bif (decide (r13.2 = 4)) then
 (s_l1Cur_among r13.1 [(-1), 0, 63, 64]).bind fun r17 =>
 bif decide (0 ≤ 0) && decide (0 < ((r9.set (Int.toNat r11.2) r12.2).length : Int)) then
 some (r17.1, (j8.2.2.2.2.2.2.2.2.1, j8.2.2.2.2.2.2.2.2.2.1, j8.2.2.2.2.2.2.2.2.2.2.1, j8.2.2.2.2.2.2.2.2.2.2.2.1, ((r9.set (Int.toNat r11.2) r12.2).set (Int.toNat 0) r17.2), ()))
 else
 none
 else
 some (r13.1, (j8.2.2.2.2.2.2.2.2.1, j8.2.2.2.2.2.2.2.2.2.1, j8.2.2.2.2.2.2.2.2.2.2.1, j8.2.2.2.2.2.2.2.2.2.2.2.1, (r9.set (Int.toNat r11.2) r12.2), ()))
 else
 none
 else
 (s_l1Cur_pick r10.1 40).bind fun r18 =>
 bif (decide (r18.2 = 0)) then
 (s_l1Cur_among r18.1 [(-1), 10000, 10001]).bind fun r19 =>
 some (r19.1, (r19.2, j8.2.2.2.2.2.2.2.2.2.1, j8.2.2.2.2.2.2.2.2.2.2.1, j8.2.2.2.2.2.2.2.2.2.2.2.1, r9, ()))
 else
 bif (decide (r18.2 = 1)) then
 (s_l1Cur_among r18.1 [0, 1000]).bind fun r20 =>
 some (r20.1, (j8.2.2.2.2.2.2.2.2.1, r20.2, j8.2.2.2.2.2.2.2.2.2.2.1, j8.2.2.2.2.2.2.2.2.2.2.2.1, r9, ()))
 else
 bif (decide (r18.2 = 2)) then
 (s_l1Cur_among r18.1 [(-1), 8, 9]).bind fun r21 =>
 some (r21.1, (j8.2.2.2.2.2.2.2.2.1, j8.2.2.2.2.2.2.2.2.2.1, r21.2, j8.2.2.2.2.2.2.2.2.2.2.2.1, r9, ()))
 else
 bif (decide (r18.2 = 3)) then
 some (r18.1, (j8.2.2.2.2.2.2.2.2.1, j8.2.2.2.2.2.2.2.2.2.1, j8.2.2.2.2.2.2.2.2.2.2.1, [], r9, ()))
 else
 bif (decide (r18.2 = 4)) then
 (s_l1Cur_among r18.1 [(-1), 0, 63, 64]).bind fun r22 =>
 bif decide (0 ≤ 0) && decide (0 < (r9.length : Int)) then
 some (r22.1, (j8.2.2.2.2.2.2.2.2.1, j8.2.2.2.2.2.2.2.2.2.1, j8.2.2.2.2.2.2.2.2.2.2.1, j8.2.2.2.2.2.2.2.2.2.2.2.1, (r9.set (Int.toNat 0) r22.2), ()))
 else
 none
 else
 some (r18.1, (j8.2.2.2.2.2.2.2.2.1, j8.2.2.2.2.2.2.2.2.2.1, j8.2.2.2.2.2.2.2.2.2.2.1, j8.2.2.2.2.2.2.2.2.2.2.2.1, r9, ()))
def C77 : FnSpec := { ps := [.mbox TGl1Cur, .val (.int .i64)], rs := [.own TGEntry], fn := fun x => s_l1Cur_entry x.1 x.2 }
def E77 : Env := { T := [(3, (.int .i64)), (23, (.slice (.int .i64))), (40, TGEntry)], G := [(43, C43), (46, C46), (52, C52), (74, C74), (97, C97)], ro := [70], loops := [], joins := [(4, { keep := [], live := [], outs := [(.normal, [.bx 0 100000 [.pv (.slice (.int .u8)), .pv (.int .i64), .pv (.int .u64)], .bx 4 64 [.pv (.int .i64), .pv (.int .i64), .pv (.int .i64), .own 300067 (.int .i64) true, .own 300068 (.int .i64) true], .bx 5 80 [.pv (.int .i64), .pv (.int .i64), .pv (.int .i64), .own 384 (.int .i64) true, .own 300084 (.int .i64) true]])] })], hoist := [(6, [0]), (17, [0])], aside := [(38, 100000), (40, 100000), (71, 100000)] }
theorem S77 : Sound Tryz.prog 77 C77 := fun_sound_box (E := E77) ⟨good_T (by kernel_rfl), (good_cons S43 ⟨_, Tryz.func43, by kernel_rfl, by kernel_rfl⟩ (good_cons S46 ⟨_, Tryz.func46, by kernel_rfl, by kernel_rfl⟩ (good_cons S52 ⟨_, Tryz.func52, by kernel_rfl, by kernel_rfl⟩ (good_cons S74 ⟨_, Tryz.func74, by kernel_rfl, by kernel_rfl⟩ (good_cons S97 ⟨_, Tryz.func97, by kernel_rfl, by kernel_rfl⟩ good_nil))))), mixedOk, ins_nil⟩ Tryz.func77 rfl fun _ => by kernel_rfl
def s_l1Cur_log (p_c : Gl1Cur) : Option (Gl1Cur × (List GEntry)) :=
 (s_l1Cur_pick p_c 50).bind fun r1 =>
 (s_l1Cur_pick r1.1 9).bind fun r2 =>
 (loopE (fun (st5 : (List Int) × Int × Int × (List GEntry) × Int × Int) => (
 bif (decide (0 < st5.2.2.2.2.2)) then
 (s_l1Cur_entry (st5.1, st5.2.1, st5.2.2.1, ()) st5.2.2.2.2.1).bind fun r6 =>
 bif decide (List.length st5.2.2.2.1 + List.length [r6.2] ≤ lim) then
 bothSame (
 (s_lgGood (st5.2.2.2.1 ++ [r6.2])).bind fun r7 =>
 bif r7 then
 bif true then
 (s_l1Cur_among r6.1 [0, 1, 10, 40]).bind fun r11 =>
 some (.inl (r11.1.1, r11.1.2.1, r11.1.2.2.1, (st5.2.2.2.1 ++ [r6.2]), (w64 (st5.2.2.2.2.1 + r11.2)), (w64 (st5.2.2.2.2.2 - 1))))
 else
 (s_l1Cur_among r6.1 [0, 1, 10, 40]).bind fun r12 =>
 some (.inl (r12.1.1, r12.1.2.1, r12.1.2.2.1, (List.take (List.length st5.2.2.2.1) (st5.2.2.2.1 ++ [r6.2])), (w64 (st5.2.2.2.2.1 + r12.2)), (w64 (st5.2.2.2.2.2 - 1))))
 else
 (s_l1Cur_one r6.1 30).bind fun r8 =>
 bif r8.2 then
 (s_l1Cur_among r8.1 [0, 1, 10, 40]).bind fun r9 =>
 some (.inl (r9.1.1, r9.1.2.1, r9.1.2.2.1, (st5.2.2.2.1 ++ [r6.2]), (w64 (st5.2.2.2.2.1 + r9.2)), (w64 (st5.2.2.2.2.2 - 1))))
 else
 (s_l1Cur_among r8.1 [0, 1, 10, 40]).bind fun r10 =>
 some (.inl (r10.1.1, r10.1.2.1, r10.1.2.2.1, (List.take (List.length st5.2.2.2.1) (st5.2.2.2.1 ++ [r6.2])), (w64 (st5.2.2.2.2.1 + r10.2)), (w64 (st5.2.2.2.2.2 - 1)))))
 (
 (s_lgGood (st5.2.2.2.1 ++ [r6.2])).bind fun r13 =>
 bif r13 then
 bif true then
 (s_l1Cur_among r6.1 [0, 1, 10, 40]).bind fun r17 =>
 some (.inl (r17.1.1, r17.1.2.1, r17.1.2.2.1, (st5.2.2.2.1 ++ [r6.2]), (w64 (st5.2.2.2.2.1 + r17.2)), (w64 (st5.2.2.2.2.2 - 1))))
 else
 (s_l1Cur_among r6.1 [0, 1, 10, 40]).bind fun r18 =>
 some (.inl (r18.1.1, r18.1.2.1, r18.1.2.2.1, st5.2.2.2.1, (w64 (st5.2.2.2.2.1 + r18.2)), (w64 (st5.2.2.2.2.2 - 1))))
 else
 (s_l1Cur_one r6.1 30).bind fun r14 =>
 bif r14.2 then
 (s_l1Cur_among r14.1 [0, 1, 10, 40]).bind fun r15 =>
 some (.inl (r15.1.1, r15.1.2.1, r15.1.2.2.1, (st5.2.2.2.1 ++ [r6.2]), (w64 (st5.2.2.2.2.1 + r15.2)), (w64 (st5.2.2.2.2.2 - 1))))
 else
 (s_l1Cur_among r14.1 [0, 1, 10, 40]).bind fun r16 =>
 some (.inl (r16.1.1, r16.1.2.1, r16.1.2.2.1, st5.2.2.2.1, (w64 (st5.2.2.2.2.1 + r16.2)), (w64 (st5.2.2.2.2.2 - 1)))))
 else
 none
 else
 some (.inr (st5.1, st5.2.1, st5.2.2.1, st5.2.2.2.1)) : Option (((List Int) × Int × Int × (List GEntry) × Int × Int) ⊕ (((List Int) × Int × Int × (List GEntry)))))) (r2.1.1, r2.1.2.1, r2.1.2.2.1, [], r1.2, r2.2)).bind fun o19 =>
 (s_l1Cur_one (o19.1, o19.2.1, o19.2.2.1, ()) 24).bind fun r20 =>
 bif r20.2 then
 (s_l1Cur_pick r20.1 2).bind fun r21 =>
 (loopE (fun (st24 : (List Int) × Int × Int × (List GEntry)) => (
 bif (decide ((st24.2.2.2.length : Int) < (w64 (30 + r21.2)))) then
 bif decide (List.length st24.2.2.2 + List.length [((st24.2.2.2.length : Int), (w64 (1 + (st24.2.2.2.length : Int))), 0, [5], [5], ())] ≤ lim) then
 some (.inl (st24.1, st24.2.1, st24.2.2.1, (st24.2.2.2 ++ [((st24.2.2.2.length : Int), (w64 (1 + (st24.2.2.2.length : Int))), 0, [5], [5], ())])))
 else
 none
 else
 some (.inr (st24.1, st24.2.1, st24.2.2.1, st24.2.2.2)) : Option (((List Int) × Int × Int × (List GEntry)) ⊕ (((List Int) × Int × Int × (List GEntry)))))) (r21.1.1, r21.1.2.1, r21.1.2.2.1, [])).bind fun o25 =>
 some ((o25.1, o25.2.1, o25.2.2.1, ()), o25.2.2.2)
 else
 some (r20.1, o19.2.2.2)
def C45 : FnSpec := { ps := [.mbox TGl1Cur], rs := [.sh TGEntry], fn := fun x => s_l1Cur_log x }
def E45 : Env := { T := [(23, (.slice (.int .i64))), (35, (.slice TGEntry)), (40, TGEntry)], G := [(43, C43), (52, C52), (74, C74), (75, C75), (77, C77)], ro := [], loops := [(4, { keep := [], live := [.bx 0 100000 [.pv (.slice (.int .u8)), .pv (.int .i64), .pv (.int .u64)], .own 3 [] 200003 TGEntry false, .tv 4 (.int .i64), .tv 5 (.int .i64)], outs := [(.exit 0, [.bx 0 100000 [.pv (.slice (.int .u8)), .pv (.int .i64), .pv (.int .u64)], .own 3 [] 200003 TGEntry false])] }), (14, { keep := [8], live := [.bx 0 100000 [.pv (.slice (.int .u8)), .pv (.int .i64), .pv (.int .u64)], .own 3 [] 200003 TGEntry false], outs := [(.exit 2, [.bx 0 100000 [.pv (.slice (.int .u8)), .pv (.int .i64), .pv (.int .u64)], .own 3 [] 200003 TGEntry false])] })], joins := [], forks := [26], grow := [23] }
theorem S45 : Sound Tryz.prog 45 C45 := fun_sound_box (E := E45) ⟨good_T (by kernel_rfl), (good_cons S43 ⟨_, Tryz.func43, by kernel_rfl, by kernel_rfl⟩ (good_cons S52 ⟨_, Tryz.func52, by kernel_rfl, by kernel_rfl⟩ (good_cons S74 ⟨_, Tryz.func74, by kernel_rfl, by kernel_rfl⟩ (good_cons S75 ⟨_, Tryz.func75, by kernel_rfl, by kernel_rfl⟩ (good_cons S77 ⟨_, Tryz.func77, by kernel_rfl, by kernel_rfl⟩ good_nil))))), mixedOk, ins_nil⟩ Tryz.func45 rfl fun _ => by kernel_rfl
def s_l1Most (p_a : Int) (p_b : Int) : Option (Int) :=
 bif (decide (p_b < p_a)) then
 some p_a
 else
 some p_b
def C96 : FnSpec := { ps := [.val (.int .i64), .val (.int .i64)], rs := [.val (.int .i64)], fn := fun x => s_l1Most x.1 x.2 }
def E96 : Env := { T := [], G := [], ro := [], loops := [], joins := [] }
theorem S96 : Sound Tryz.prog 96 C96 := fun_sound (E := E96) ⟨good_T (by kernel_rfl), good_nil, mixedOk, ins_nil⟩ Tryz.func96 rfl fun _ => by kernel_rfl
def s_l1Cur_passedOn (p_c : Gl1Cur) (p_l : List GEntry) : Option (Gl1Cur × (List GEntry)) :=
 (loopE (fun (st2 : (List Int) × Int × Int × (List GEntry) × Int) => (
 bif (decide (st2.2.2.2.2 < (p_l.length : Int))) then
 (idx p_l st2.2.2.2.2).bind fun e3 =>
 (s_l1Cur_one (st2.1, st2.2.1, st2.2.2.1, ()) 12).bind fun r4 =>
 bif r4.2 then
 some (.inl (r4.1.1, r4.1.2.1, r4.1.2.2.1, st2.2.2.2.1, (w64 (st2.2.2.2.2 + 1))))
 else
 (s_l1Cur_pick r4.1 5).bind fun r5 =>
 (s_l1Least 10000 (w64 (e3.1 + r5.2))).bind fun r6 =>
 (s_l1Own e3.2.2.2.2.1).bind fun r7 =>
 (s_l1Own e3.2.2.2.2.1).bind fun r8 =>
 ((s_l1Cur_one r5.1 12).bind fun r9 =>
 bif r9.2 then
 (s_l1Cur_pick r9.1 64).bind fun r10 =>
 bif decide (0 ≤ 0) && decide (0 < (r7.length : Int)) then
 (s_l1Own (r7.set (Int.toNat 0) r10.2)).bind fun r11 =>
 some (r10.1.1, r10.1.2.1, r10.1.2.2.1, st2.2.2.2.1, e3.1, e3.2.1, e3.2.2.1, e3.2.2.2.1, e3.2.2.2.2.1, r6, e3.2.1, e3.2.2.1, (r7.set (Int.toNat 0) r10.2), r11)
 else
 none
 else
 some (r9.1.1, r9.1.2.1, r9.1.2.2.1, st2.2.2.2.1, e3.1, e3.2.1, e3.2.2.1, e3.2.2.2.1, e3.2.2.2.2.1, r6, e3.2.1, e3.2.2.1, r7, r8)).bind fun j12 =>
 (s_l1Cur_one (j12.1, j12.2.1, j12.2.2.1, ()) 12).bind fun r13 =>
 bif r13.2 then
 (s_l1Cur_pick r13.1 64).bind fun r14 =>
 bif decide (0 ≤ (w64 ((j12.2.2.2.2.2.2.2.2.2.2.2.2.2.length : Int) - 1))) && decide ((w64 ((j12.2.2.2.2.2.2.2.2.2.2.2.2.2.length : Int) - 1)) < (j12.2.2.2.2.2.2.2.2.2.2.2.2.2.length : Int)) then
 (s_l1Cur_one r14.1 16).bind fun r15 =>
 bif r15.2 then
 (s_l1Cur_pick r15.1 3).bind fun r16 =>
 (s_l1Most 0 (w64 (j12.2.2.2.2.1 - r16.2))).bind fun r17 =>
 bif (decide (0 < (j12.2.2.2.1.length : Int))) then
 bif decide (0 ≤ (w64 ((j12.2.2.2.1.length : Int) - 1))) && decide ((w64 ((j12.2.2.2.1.length : Int) - 1)) < (j12.2.2.2.1.length : Int)) then
 (j12.2.2.2.1[(Int.toNat (w64 ((j12.2.2.2.1.length : Int) - 1)))]?).bind fun e18 =>
 (s_l1Most r17 e18.1).bind fun r19 =>
 bif decide (List.length j12.2.2.2.1 + List.length [(r19, j12.2.2.2.2.2.2.2.2.2.2.1, j12.2.2.2.2.2.2.2.2.2.2.2.1, j12.2.2.2.2.2.2.2.2.2.2.2.2.1, (j12.2.2.2.2.2.2.2.2.2.2.2.2.2.set (Int.toNat (w64 ((j12.2.2.2.2.2.2.2.2.2.2.2.2.2.length : Int) - 1))) r14.2), ())] ≤ lim) then
 some (.inl (r16.1.1, r16.1.2.1, r16.1.2.2.1, (j12.2.2.2.1 ++ [(r19, j12.2.2.2.2.2.2.2.2.2.2.1, j12.2.2.2.2.2.2.2.2.2.2.2.1, j12.2.2.2.2.2.2.2.2.2.2.2.2.1, (j12.2.2.2.2.2.2.2.2.2.2.2.2.2.set (Int.toNat (w64 ((j12.2.2.2.2.2.2.2.2.2.2.2.2.2.length : Int) - 1))) r14.2), ())]), (w64 (st2.2.2.2.2 + 1))))
 else
 none
 else
 none
 else
 bif decide (List.length j12.2.2.2.1 + List.length [(r17, j12.2.2.2.2.2.2.2.2.2.2.1, j12.2.2.2.2.2.2.2.2.2.2.2.1, j12.2.2.2.2.2.2.2.2.2.2.2.2.1, (j12.2.2.2.2.2.2.2.2.2.2.2.2.2.set (Int.toNat (w64 ((j12.2.2.2.2.2.2.2.2.2.2.2.2.2.length : Int) - 1))) r14.2), ())] ≤ lim) then
 some (.inl (r16.1.1, r16.1.2.1, r16.1.2.2.1, (j12.2.2.2.1 ++ [(r17, j12.2.2.2.2.2.2.2.2.2.2.1, j12.2.2.2.2.2.2.2.2.2.2.2.1, j12.2.2.2.2.2.2.2.2.2.2.2.2.1, (j12.2.2.2.2.2.2.2.2.2.2.2.2.2.set (Int.toNat (w64 ((j12.2.2.2.2.2.2.2.2.2.2.2.2.2.length : Int) - 1))) r14.2), ())]), (w64 (st2.2.2.2.2 + 1))))
 else
 none
 else
 bif (decide (0 < (j12.2.2.2.1.length : Int))) then
 bif decide (0 ≤ (w64 ((j12.2.2.2.1.length : Int) - 1))) && decide ((w64 ((j12.2.2.2.1.length : Int) - 1)) < (j12.2.2.2.1.length : Int)) then
 (j12.2.2.2.1[(Int.toNat (w64 ((j12.2.2.2.1.length : Int) - 1)))]?).bind fun e20 =>
 (s_l1Most j12.2.2.2.2.2.2.2.2.2.1 e20.1).bind fun r21 =>
 bif decide (List.length j12.2.2.2.1 + List.length [(r21, j12.2.2.2.2.2.2.2.2.2.2.1, j12.2.2.2.2.2.2.2.2.2.2.2.1, j12.2.2.2.2.2.2.2.2.2.2.2.2.1, (j12.2.2.2.2.2.2.2.2.2.2.2.2.2.set (Int.toNat (w64 ((j12.2.2.2.2.2.2.2.2.2.2.2.2.2.length : Int) - 1))) r14.2), ())] ≤ lim) then
 some (.inl (r15.1.1, r15.1.2.1, r15.1.2.2.1, (j12.2.2.2.1 ++ [(r21, j12.2.2.2.2.2.2.2.2.2.2.1, j12.2.2.2.2.2.2.2.2.2.2.2.1, j12.2.2.2.2.2.2.2.2.2.2.2.2.1, (j12.2.2.2.2.2.2.2.2.2.2.2.2.2.set (Int.toNat (w64 ((j12.2.2.2.2.2.2.2.2.2.2.2.2.2.length : Int) - 1))) r14.2), ())]), (w64 (st2.2.2.2.2 + 1))))
 else
 none
 else
 none
 else
 bif decide (List.length j12.2.2.2.1 + List.length [(j12.2.2.2.2.2.2.2.2.2.1, j12.2.2.2.2.2.2.2.2.2.2.1, j12.2.2.2.2.2.2.2.2.2.2.2.1, j12.2.2.2.2.2.2.2.2.2.2.2.2.1, (j12.2.2.2.2.2.2.2.2.2.2.2.2.2.set (Int.toNat (w64 ((j12.2.2.2.2.2.2.2.2.2.2.2.2.2.length : Int) - 1))) r14.2), ())] ≤ lim) then
 some (.inl (r15.1.1, r15.1.2.1, r15.1.2.2.1, (j12.2.2.2.1 ++ [(j12.2.2.2.2.2.2.2.2.2.1, j12.2.2.2.2.2.2.2.2.2.2.1, j12.2.2.2.2.2.2.2.2.2.2.2.1, j12.2.2.2.2.2.2.2.2.2.2.2.2.1, (j12.2.2.2.2.2.2.2.2.2.2.2.2.2.set (Int.toNat (w64 ((j12.2.2.2.2.2.2.2.2.2.2.2.2.2.length : Int) - 1))) r14.2), ())]), (w64 (st2.2.2.2.2 + 1))))
 else
 none
 else
 none
 else
 (s_l1Cur_one r13.1 16).bind fun r22 =>
 bif r22.2 then
 (s_l1Cur_pick r22.1 3).bind fun r23 =>
 (s_l1Most 0 (w64 (j12.2.2.2.2.1 - r23.2))).bind fun r24 =>
 bif (decide (0 < (j12.2.2.2.1.length : Int))) then
 bif decide (0 ≤ (w64 ((j12.2.2.2.1.length : Int) - 1))) && decide ((w64 ((j12.2.2.2.1.length : Int) - 1)) < (j12.2.2.2.1.length : Int)) then
 (j12.2.2.2.1[(Int.toNat (w64 ((j12.2.2.2.1.length : Int) - 1)))]?).bind fun e25 =>
 (s_l1Most r24 e25.1).bind fun r26 =>
 bif decide (List.length j12.2.2.2.1 + List.length [(r26, j12.2.2.2.2.2.2.2.2.2.2.1, j12.2.2.2.2.2.2.2.2.2.2.2.1, j12.2.2.2.2.2.2.2.2.2.2.2.2.1, j12.2.2.2.2.2.2.2.2.2.2.2.2.2, ())] ≤ lim) then
 some (.inl (r23.1.1, r23.1.2.1, r23.1.2.2.1, (j12.2.2.2.1 ++ [(r26, j12.2.2.2.2.2.2.2.2.2.2.1, j12.2.2.2.2.2.2.2.2.2.2.2.1, j12.2.2.2.2.2.2.2.2.2.2.2.2.1, j12.2.2.2.2.2.2.2.2.2.2.2.2.2, ())]), (w64 (st2.2.2.2.2 + 1))))
 else
 none
 else
 none
 else
 bif decide (List.length j12.2.2.2.1 + List.length [(r24, j12.2.2.2.2.2.2.2.2.2.2.1, j12.2.2.2.2.2.2.2.2.2.2.2.1, j12.2.2.2.2.2.2.2.2.2.2.2.2.1, j12.2.2.2.2.2.2.2.2.2.2.2.2.2, ())] ≤ lim) then
 some (.inl (r23.1.1, r23.1.2.1, r23.1.2.2.1, (j12.2.2.2.1 ++ [(r24, j12.2.2.2.2.2.2.2.2.2.2.1, j12.2.2.2.2.2.2.2.2.2.2.2.1, j12.2.2.2.2.2.2.2.2.2.2.2.2.1, j12.2.2.2.2.2.2.2.2.2.2.2.2.2, ())]), (w64 (st2.2.2.2.2 + 1))))
 else
 none
 else
 bif (decide (0 < (j12.2.2.2.1.length : Int))) then
 bif decide (0 ≤ (w64 ((j12.2.2.2.1.length : Int) - 1))) && decide ((w64 ((j12.2.2.2.1.length : Int) - 1)) < (j12.2.2.2.1.length : Int)) then
 (j12.2.2.2.1[(Int.toNat (w64 ((j12.2.2.2.1.length : Int) - 1)))]?).bind fun e27 =>
 (s_l1Most j12.2.2.2.2.2.2.2.2.2.1 e27.1).bind fun r28 =>
 bif decide (List.length j12.2.2.2.1 + List.length [(r28, j12.2.2.2.2.2.2.2.2.2.2.1, j12.2.2.2.2.2.2.2.2.2.2.2.1, j12.2.2.2.2.2.2.2.2.2.2.2.2.1, j12.2.2.2.2.2.2.2.2.2.2.2.2.2, ())] ≤ lim) then
 some (.inl (r22.1.1, r22.1.2.1, r22.1.2.2.1, (j12.2.2.2.1 ++ [(r28, j12.2.2.2.2.2.2.2.2.2.2.1, j12.2.2.2.2.2.2.2.2.2.2.2.1, j12.2.2.2.2.2.2.2.2.2.2.2.2.1, j12.2.2.2.2.2.2.2.2.2.2.2.2.2, ())]), (w64 (st2.2.2.2.2 + 1))))
 else
 none
 else
 none
 else
 bif decide (List.length j12.2.2.2.1 + List.length [(j12.2.2.2.2.2.2.2.2.2.1, j12.2.2.2.2.2.2.2.2.2.2.1, j12.2.2.2.2.2.2.2.2.2.2.2.1, j12.2.2.2.2.2.2.2.2.2.2.2.2.1, j12.2.2.2.2.2.2.2.2.2.2.2.2.2, ())] ≤ lim) then
 some (.inl (r22.1.1, r22.1.2.1, r22.1.2.2.1, (j12.2.2.2.1 ++ [(j12.2.2.2.2.2.2.2.2.2.1, j12.2.2.2.2.2.2.2.2.2.2.1, j12.2.2.2.2.2.2.2.2.2.2.2.1, j12.2.2.2.2.2.2.2.2.2.2.2.2.1, j12.2.2.2.2.2.2.2.2.2.2.2.2.2, ())]), (w64 (st2.2.2.2.2 + 1))))
 else
 none
 else
 some (.inr (st2.1, st2.2.1, st2.2.2.1, st2.2.2.2.1)) : Option (((List Int) × Int × Int × (List GEntry) × Int) ⊕ (((List Int) × Int × Int × (List GEntry)))))) (p_c.1, p_c.2.1, p_c.2.2.1, [], 0)).bind fun o29 =>
 (s_l1Cur_one (o29.1, o29.2.1, o29.2.2.1, ()) 12).bind fun r30 =>
 bif r30.2 then
 (s_l1Cur_pick r30.1 20).bind fun r31 =>
 (s_l1Cur_pick r31.1 9).bind fun r32 =>
 bif decide (List.length o29.2.2.2 + List.length [(10000, (w64 (1 + r31.2)), r32.2, [5], [5], ())] ≤ lim) then
 some (r32.1, (o29.2.2.2 ++ [(10000, (w64 (1 + r31.2)), r32.2, [5], [5], ())]))
 else
 none
 else
 some (r30.1, o29.2.2.2)
def C76 : FnSpec := { ps := [.mbox TGl1Cur, .val (.slice TGEntry)], rs := [.own (.slice TGEntry)], fn := fun x => s_l1Cur_passedOn x.1 x.2 }
def E76 : Env := { T := [(3, (.int .i64)), (23, (.slice (.int .i64))), (35, (.slice TGEntry)), (40, TGEntry)], G := [(43, C43), (46, C46), (56, C56), (74, C74), (96, C96)], ro := [], loops := [(3, { keep := [9, 10], live := [.bx 0 100000 [.pv (.slice (.int .u8)), .pv (.int .i64), .pv (.int .u64)], .own 5 [] 200005 TGEntry true, .tv 11 (.int .i64)], outs := [(.exit 0, [.bx 0 100000 [.pv (.slice (.int .u8)), .pv (.int .i64), .pv (.int .u64)], .own 5 [] 200005 TGEntry true])] })], joins := [(10, { keep := [9, 10, 11], live := [], outs := [(.normal, [.bx 0 100000 [.pv (.slice (.int .u8)), .pv (.int .i64), .pv (.int .u64)], .own 5 [] 200005 TGEntry true, .bx 7 112 [.pv (.int .i64), .pv (.int .i64), .pv (.int .i64), .pv (.slice (.int .i64)), .pv (.slice (.int .i64))], .bx 8 128 [.pv (.int .i64), .pv (.int .i64), .pv (.int .i64), .own 464 (.int .i64) true, .own 688 (.int .i64) true]])] })], mv := true, hoist := [(6, [0]), (8, [0]), (11, [0, 2]), (13, [0])], aside := [(20, 100000), (39, 100000), (54, 100000), (61, 100000)] }
theorem S76 : Sound Tryz.prog 76 C76 := fun_sound_box (E := E76) ⟨good_T (by kernel_rfl), (good_cons S43 ⟨_, Tryz.func43, by kernel_rfl, by kernel_rfl⟩ (good_cons S46 ⟨_, Tryz.func46, by kernel_rfl, by kernel_rfl⟩ (good_cons S56 ⟨_, Tryz.func56, by kernel_rfl, by kernel_rfl⟩ (good_cons S74 ⟨_, Tryz.func74, by kernel_rfl, by kernel_rfl⟩ (good_cons S96 ⟨_, Tryz.func96, by kernel_rfl, by kernel_rfl⟩ good_nil))))), mixedOk, ins_nil⟩ Tryz.func76 rfl fun _ => by kernel_rfl
def s_l1Cur_lineLogs (p_c : Gl1Cur) : Option (Gl1Cur × (List (List GEntry))) :=
 (s_l1Cur_log p_c).bind fun r1 =>
 (s_l1Cur_pick r1.1 4).bind fun r2 =>
 (s_l1Cur_one r2.1 20).bind fun r3 =>
 bif r3.2 then
 (s_l1Cur_pick r3.1 2).bind fun r4 =>
 (loopE (fun (st6 : (List Int) × Int × Int × (List (List GEntry))) => (
 bif (decide ((st6.2.2.2.length : Int) < (w64 (8 + r4.2)))) then
 bif decide (0 ≤ (w64 ((st6.2.2.2.length : Int) - 1))) && decide ((w64 ((st6.2.2.2.length : Int) - 1)) < (st6.2.2.2.length : Int)) then
 (st6.2.2.2[(Int.toNat (w64 ((st6.2.2.2.length : Int) - 1)))]?).bind fun e7 =>
 (s_lgGood e7).bind fun r8 =>
 bif r8 then
 (s_l1Cur_one (st6.1, st6.2.1, st6.2.2.1, ()) 24).bind fun r9 =>
 bif (!r9.2) then
 (s_l1Cur_passedOn r9.1 e7).bind fun r10 =>
 bif decide (List.length st6.2.2.2 + List.length [r10.2] ≤ lim) then
 some (.inl (r10.1.1, r10.1.2.1, r10.1.2.2.1, (st6.2.2.2 ++ [r10.2])))
 else
 none
 else
 (s_l1Cur_log r9.1).bind fun r11 =>
 bif decide (List.length st6.2.2.2 + List.length [r11.2] ≤ lim) then
 some (.inl (r11.1.1, r11.1.2.1, r11.1.2.2.1, (st6.2.2.2 ++ [r11.2])))
 else
 none
 else
 bif false then
 (s_l1Cur_passedOn (st6.1, st6.2.1, st6.2.2.1, ()) e7).bind fun r12 =>
 bif decide (List.length st6.2.2.2 + List.length [r12.2] ≤ lim) then
 some (.inl (r12.1.1, r12.1.2.1, r12.1.2.2.1, (st6.2.2.2 ++ [r12.2])))
 else
 none
 else
 (s_l1Cur_log (st6.1, st6.2.1, st6.2.2.1, ())).bind fun r13 =>
 bif decide (List.length st6.2.2.2 + List.length [r13.2] ≤ lim) then
 some (.inl (r13.1.1, r13.1.2.1, r13.1.2.2.1, (st6.2.2.2 ++ [r13.2])))
 else
 none
 else
 none
 else
 some (.inr (st6.1, st6.2.1, st6.2.2.1, st6.2.2.2)) : Option (((List Int) × Int × Int × (List (List GEntry))) ⊕ (((List Int) × Int × Int × (List (List GEntry))))))) (r4.1.1, r4.1.2.1, r4.1.2.2.1, [r1.2])).bind fun o14 =>
 (s_l1Cur_one (o14.1, o14.2.1, o14.2.2.1, ()) 24).bind fun r15 =>
 bif r15.2 then
 some (r15.1, [])
 else
 some (r15.1, o14.2.2.2)
 else
 (loopE (fun (st17 : (List Int) × Int × Int × (List (List GEntry))) => (
 bif (decide ((st17.2.2.2.length : Int) < (w64 (1 + r2.2)))) then
 bif decide (0 ≤ (w64 ((st17.2.2.2.length : Int) - 1))) && decide ((w64 ((st17.2.2.2.length : Int) - 1)) < (st17.2.2.2.length : Int)) then
 (st17.2.2.2[(Int.toNat (w64 ((st17.2.2.2.length : Int) - 1)))]?).bind fun e18 =>
 (s_lgGood e18).bind fun r19 =>
 bif r19 then
 (s_l1Cur_one (st17.1, st17.2.1, st17.2.2.1, ()) 24).bind fun r20 =>
 bif (!r20.2) then
 (s_l1Cur_passedOn r20.1 e18).bind fun r21 =>
 bif decide (List.length st17.2.2.2 + List.length [r21.2] ≤ lim) then
 some (.inl (r21.1.1, r21.1.2.1, r21.1.2.2.1, (st17.2.2.2 ++ [r21.2])))
 else
 none
 else
 (s_l1Cur_log r20.1).bind fun r22 =>
 bif decide (List.length st17.2.2.2 + List.length [r22.2] ≤ lim) then
 some (.inl (r22.1.1, r22.1.2.1, r22.1.2.2.1, (st17.2.2.2 ++ [r22.2])))
 else
 none
 else
 bif false then
 (s_l1Cur_passedOn (st17.1, st17.2.1, st17.2.2.1, ()) e18).bind fun r23 =>
 bif decide (List.length st17.2.2.2 + List.length [r23.2] ≤ lim) then
 some (.inl (r23.1.1, r23.1.2.1, r23.1.2.2.1, (st17.2.2.2 ++ [r23.2])))
 else
 none
 else
 (s_l1Cur_log (st17.1, st17.2.1, st17.2.2.1, ())).bind fun r24 =>
 bif decide (List.length st17.2.2.2 + List.length [r24.2] ≤ lim) then
 some (.inl (r24.1.1, r24.1.2.1, r24.1.2.2.1, (st17.2.2.2 ++ [r24.2])))
 else
 none
 else
 none
 else
 some (.inr (st17.1, st17.2.1, st17.2.2.1, st17.2.2.2)) : Option (((List Int) × Int × Int × (List (List GEntry))) ⊕ (((List Int) × Int × Int × (List (List GEntry))))))) (r3.1.1, r3.1.2.1, r3.1.2.2.1, [r1.2])).bind fun o25 =>
 (s_l1Cur_one (o25.1, o25.2.1, o25.2.2.1, ()) 24).bind fun r26 =>
 bif r26.2 then
 some (r26.1, [])
 else
 some (r26.1, o25.2.2.2)
def C44 : FnSpec := { ps := [.mbox TGl1Cur], rs := [.val (.slice (.slice TGEntry))], fn := fun x => s_l1Cur_lineLogs x }
def E44 : Env := { T := [(35, (.slice TGEntry)), (46, (.slice (.slice TGEntry)))], G := [(43, C43), (45, C45), (74, C74), (75, C75), (76, C76)], ro := [], loops := [(5, { keep := [4], live := [.bx 0 100000 [.pv (.slice (.int .u8)), .pv (.int .i64), .pv (.int .u64)], .own 3 [] 128 (.slice TGEntry) false], outs := [(.exit 0, [.bx 0 100000 [.pv (.slice (.int .u8)), .pv (.int .i64), .pv (.int .u64)], .own 3 [] 128 (.slice TGEntry) false])] })], joins := [], mv := true, forks := [29] }
theorem S44 : Sound Tryz.prog 44 C44 := fun_sound_box (E := E44) ⟨good_T (by kernel_rfl), (good_cons S43 ⟨_, Tryz.func43, by kernel_rfl, by kernel_rfl⟩ (good_cons S45 ⟨_, Tryz.func45, by kernel_rfl, by kernel_rfl⟩ (good_cons S74 ⟨_, Tryz.func74, by kernel_rfl, by kernel_rfl⟩ (good_cons S75 ⟨_, Tryz.func75, by kernel_rfl, by kernel_rfl⟩ (good_cons S76 ⟨_, Tryz.func76, by kernel_rfl, by kernel_rfl⟩ good_nil))))), mixedOk, ins_nil⟩ Tryz.func44 rfl fun _ => by kernel_rfl
def s_DrawIsTrueLine (p_code : List Int) : Option ((List (List GEntry))) :=
 (s_l1Cur_one (p_code, 0, 0, ()) 2).bind fun r1 =>
 bif r1.2 then
 (s_l1Cur_lineLogs r1.1).bind fun r2 =>
 some r2.2
 else
 (s_l1Cur_log r1.1).bind fun r3 =>
 (loopE (fun (st5 : (List GEntry) × Int) => (
 bif (decide (st5.2 < (r3.2.length : Int))) then
 bif decide (0 ≤ st5.2) && decide (st5.2 < (st5.1.length : Int)) then
 (st5.1[(Int.toNat st5.2)]?).bind fun e6 =>
 (s_l1Own e6.2.2.2.1).bind fun r7 =>
 bif decide (0 ≤ st5.2) && decide (st5.2 < (st5.1.length : Int)) then
 (st5.1[(Int.toNat st5.2)]?).bind fun e8 =>
 some (.inl ((st5.1.set (Int.toNat st5.2) (e8.1, e8.2.1, e8.2.2.1, e8.2.2.2.1, r7, ())), (w64 (st5.2 + 1))))
 else
 none
 else
 none
 else
 some (.inr st5.1) : Option (((List GEntry) × Int) ⊕ ((List GEntry))))) (r3.2, 0)).bind fun o9 =>
 some [o9, o9, o9]
def C18 : FnSpec := { ps := [.val (.slice (.int .u8))], rs := [.val (.slice (.slice TGEntry))], fn := fun x => s_DrawIsTrueLine x }
def E18 : Env := { T := [(23, (.slice (.int .i64))), (35, (.slice TGEntry)), (40, TGEntry), (46, (.slice (.slice TGEntry))), (85, TGl1Cur)], G := [(43, C43), (44, C44), (45, C45), (46, C46)], ro := [], loops := [(6, { keep := [16], live := [.own 4 [] 224 TGEntry false, .tv 17 (.int .i64)], outs := [(.exit 0, [.own 4 [] 224 TGEntry false])] })], joins := [] }
theorem S18 : Sound Tryz.prog 18 C18 := fun_sound (E := E18) ⟨good_T (by kernel_rfl), (good_cons S43 ⟨_, Tryz.func43, by kernel_rfl, by kernel_rfl⟩ (good_cons S44 ⟨_, Tryz.func44, by kernel_rfl, by kernel_rfl⟩ (good_cons S45 ⟨_, Tryz.func45, by kernel_rfl, by kernel_rfl⟩ (good_cons S46 ⟨_, Tryz.func46, by kernel_rfl, by kernel_rfl⟩ good_nil)))), mixedOk, ins_nil⟩ Tryz.func18 rfl fun _ => by kernel_rfl
def s_auGood (p_logs : List (List GEntry)) : Option (Bool) :=
 (loopE (fun (st2 : Int) => (
 bif (decide (st2 < (p_logs.length : Int))) then
 (idx p_logs st2).bind fun e3 =>
 (s_lgGood e3).bind fun r4 =>
 bif (!r4) then
 some (.inr (.inr false))
 else
 some (.inl (w64 (st2 + 1)))
 else
 some (.inr (.inl ())) : Option ((Int) ⊕ (Unit ⊕ Bool)))) 0).bind fun o5 =>
 match o5 with
 | .inl _ =>
  (s_l1In (p_logs.length : Int) 1 8).bind fun r8 =>
  some r8
 | .inr y7 =>
  some y7
def C47 : FnSpec := { ps := [.val (.slice (.slice TGEntry))], rs := [.val .bool], fn := fun x => s_auGood x }
def E47 : Env := { T := [(35, (.slice TGEntry)), (46, (.slice (.slice TGEntry)))], G := [(30, C30), (75, C75)], ro := [], loops := [(2, { keep := [0, 5, 6], live := [.tv 7 (.int .i64)], outs := [(.exit 0, []), (.ret, [.tv 2 .bool])] })], joins := [] }
theorem S47 : Sound Tryz.prog 47 C47 := fun_sound (E := E47) ⟨good_T (by kernel_rfl), (good_cons S30 ⟨_, Tryz.func30, by kernel_rfl, by kernel_rfl⟩ (good_cons S75 ⟨_, Tryz.func75, by kernel_rfl, by kernel_rfl⟩ good_nil)), mixedOk, ins_nil⟩ Tryz.func47 rfl fun _ => by kernel_rfl
def s_l1Same (p_a : List Int) (p_b : List Int) : Option (Bool) :=
 bif (!decide ((p_a.length : Int) = (p_b.length : Int))) then
 some false
 else
 (loopE (fun (st2 : Int) => (
 bif (decide (st2 < (p_a.length : Int))) then
 (idx p_a st2).bind fun e3 =>
 (idx p_b st2).bind fun e4 =>
 bif (!decide (e3 = e4)) then
 some (.inr (.inr false))
 else
 some (.inl (w64 (st2 + 1)))
 else
 some (.inr (.inl ())) : Option ((Int) ⊕ (Unit ⊕ Bool)))) 0).bind fun o5 =>
 match o5 with
 | .inl _ =>
  some true
 | .inr y7 =>
  some y7
def C78 : FnSpec := { ps := [.val (.slice (.int .i64)), .val (.slice (.int .i64))], rs := [.val .bool], fn := fun x => s_l1Same x.1 x.2 }
def E78 : Env := { T := [(3, (.int .i64)), (23, (.slice (.int .i64)))], G := [], ro := [], loops := [(4, { keep := [0, 1, 12], live := [.tv 13 (.int .i64)], outs := [(.exit 0, []), (.ret, [.tv 4 .bool])] })], joins := [] }
theorem S78 : Sound Tryz.prog 78 C78 := fun_sound (E := E78) ⟨good_T (by kernel_rfl), good_nil, mixedOk, ins_nil⟩ Tryz.func78 rfl fun _ => by kernel_rfl
def s_auKind (p_e : GEntry) (p_b : List GEntry) : Option (Int) :=
 (s_lgFind p_b p_e.2.1 p_e.2.2.1).bind fun r1 =>
 bif (decide (r1 < 0)) then
 some 1
 else
 (idx p_b r1).bind fun e2 =>
 (s_l1Same e2.2.2.2.1 p_e.2.2.2.2.1).bind fun r3 =>
 bif (!r3) then
 some 2
 else
 (idx p_b r1).bind fun e4 =>
 bif (decide (e4.1 < p_e.1)) then
 some 3
 else
 some 0
def C98 : FnSpec := { ps := [.val TGEntry, .val (.slice TGEntry)], rs := [.val (.int .i64)], fn := fun x => s_auKind x.1 x.2 }
def E98 : Env := { T := [(3, (.int .i64)), (23, (.slice (.int .i64))), (35, (.slice TGEntry)), (40, TGEntry)], G := [(78, C78), (95, C95)], ro := [2], loops := [], joins := [] }
theorem S98 : Sound Tryz.prog 98 C98 := fun_sound (E := E98) ⟨good_T (by kernel_rfl), (good_cons S78 ⟨_, Tryz.func78, by kernel_rfl, by kernel_rfl⟩ (good_cons S95 ⟨_, Tryz.func95, by kernel_rfl, by kernel_rfl⟩ good_nil)), mixedOk, ins_nil⟩ Tryz.func98 rfl fun _ => by kernel_rfl
def s_auPair (p_a : List GEntry) (p_b : List GEntry) : Option ((List (List Int))) :=
 (loopE (fun (st2 : (List (List Int)) × Int) => (
 bif (decide (st2.2 < (p_a.length : Int))) then
 (idx p_a st2.2).bind fun e3 =>
 (s_auKind e3 p_b).bind fun r4 =>
 bif (decide (0 < r4)) then
 bif decide (List.length st2.1 + List.length [[e3.2.1, e3.2.2.1, r4]] ≤ lim) then
 some (.inl ((st2.1 ++ [[e3.2.1, e3.2.2.1, r4]]), (w64 (st2.2 + 1))))
 else
 none
 else
 some (.inl (st2.1, (w64 (st2.2 + 1))))
 else
 some (.inr st2.1) : Option (((List (List Int)) × Int) ⊕ ((List (List Int)))))) ([], 0)).bind fun o5 =>
 (loopE (fun (st7 : (List (List Int)) × Int) => (
 bif (decide (st7.2 < (p_b.length : Int))) then
 (idx p_b st7.2).bind fun e8 =>
 (s_lgFind p_a e8.2.1 e8.2.2.1).bind fun r9 =>
 bif (decide (r9 < 0)) then
 bif decide (List.length st7.1 + List.length [[e8.2.1, e8.2.2.1, 4]] ≤ lim) then
 some (.inl ((st7.1 ++ [[e8.2.1, e8.2.2.1, 4]]), (w64 (st7.2 + 1))))
 else
 none
 else
 some (.inl (st7.1, (w64 (st7.2 + 1))))
 else
 some (.inr st7.1) : Option (((List (List Int)) × Int) ⊕ ((List (List Int)))))) (o5, 0)).bind fun o10 =>
 some o10
def C79 : FnSpec := { ps := [.val (.slice TGEntry), .val (.slice TGEntry)], rs := [.own (.slice (.slice (.int .i64)))], fn := fun x => s_auPair x.1 x.2 }
def E79 : Env := { T := [(3, (.int .i64)), (23, (.slice (.int .i64))), (35, (.slice TGEntry)), (40, TGEntry), (48, (.slice (.slice (.int .i64))))], G := [(95, C95), (98, C98)], ro := [], loops := [(3, { keep := [0, 1, 11, 12], live := [.own 5 [] 200005 (.slice (.int .i64)) true, .tv 13 (.int .i64)], outs := [(.exit 0, [.own 5 [] 200005 (.slice (.int .i64)) true])] }), (10, { keep := [0, 32, 33], live := [.own 5 [] 200005 (.slice (.int .i64)) true, .tv 34 (.int .i64)], outs := [(.exit 2, [.own 5 [] 200005 (.slice (.int .i64)) true])] })], joins := [], mv := true }
theorem S79 : Sound Tryz.prog 79 C79 := fun_sound (E := E79) ⟨good_T (by kernel_rfl), (good_cons S95 ⟨_, Tryz.func95, by kernel_rfl, by kernel_rfl⟩ (good_cons S98 ⟨_, Tryz.func98, by kernel_rfl, by kernel_rfl⟩ good_nil)), mixedOk, ins_nil⟩ Tryz.func79 rfl fun _ => by kernel_rfl
def s_auLine (p_logs : List (List GEntry)) : Option ((List (List Int))) :=
 (loopE (fun (st2 : (List (List Int)) × Int) => (
 bif (decide (st2.2 < (p_logs.length : Int))) then
 (idx p_logs st2.2).bind fun e3 =>
 (loopE (fun (st5 : (List (List Int)) × Int) => (
 bif (decide (st5.2 < (e3.length : Int))) then
 (idx e3 st5.2).bind fun e6 =>
 (s_l1Same e6.2.2.2.1 e6.2.2.2.2.1).bind fun r7 =>
 bif (!r7) then
 bif decide (List.length st5.1 + List.length [[e6.2.1, e6.2.2.1, 5, st2.2]] ≤ lim) then
 some (.inl ((st5.1 ++ [[e6.2.1, e6.2.2.1, 5, st2.2]]), (w64 (st5.2 + 1))))
 else
 none
 else
 some (.inl (st5.1, (w64 (st5.2 + 1))))
 else
 some (.inr st5.1) : Option (((List (List Int)) × Int) ⊕ ((List (List Int)))))) (st2.1, 0)).bind fun o8 =>
 bif (decide ((w64 (st2.2 + 1)) = (p_logs.length : Int))) then
 some (.inr o8)
 else
 (idx p_logs (w64 (st2.2 + 1))).bind fun e9 =>
 (s_auPair e3 e9).bind fun r10 =>
 (loopE (fun (st12 : (List (List Int)) × (List (List Int)) × Int) => (
 bif (decide (st12.2.2 < (r10.length : Int))) then
 bif decide (0 ≤ st12.2.2) && decide (st12.2.2 < (st12.2.1.length : Int)) then
 (st12.2.1[(Int.toNat st12.2.2)]?).bind fun e13 =>
 (s_l1Own e13).bind fun r14 =>
 bif decide (List.length r14 + List.length [st2.2] ≤ lim) then
 bif decide (List.length st12.1 + List.length [(r14 ++ [st2.2])] ≤ lim) then
 some (.inl ((st12.1 ++ [(r14 ++ [st2.2])]), st12.2.1, (w64 (st12.2.2 + 1))))
 else
 none
 else
 none
 else
 none
 else
 some (.inr st12.1) : Option (((List (List Int)) × (List (List Int)) × Int) ⊕ ((List (List Int)))))) (o8, r10, 0)).bind fun o15 =>
 some (.inl (o15, (w64 (st2.2 + 1))))
 else
 some (.inr st2.1) : Option (((List (List Int)) × Int) ⊕ ((List (List Int)))))) ([], 0)).bind fun o16 =>
 some o16
def C48 : FnSpec := { ps := [.val (.slice (.slice TGEntry))], rs := [.own (.slice (.slice (.int .i64)))], fn := fun x => s_auLine x }
def E48 : Env := { T := [(3, (.int .i64)), (23, (.slice (.int .i64))), (35, (.slice TGEntry)), (40, TGEntry), (46, (.slice (.slice TGEntry))), (48, (.slice (.slice (.int .i64))))], G := [(46, C46), (78, C78), (79, C79)], ro := [], loops := [(3, { keep := [0, 10, 11], live := [.own 3 [] 200003 (.slice (.int .i64)) true, .tv 12 (.int .i64)], outs := [(.exit 0, [.own 3 [] 200003 (.slice (.int .i64)) true])] }), (6, { keep := [0, 4, 5, 10, 11, 12, 17, 18], live := [.own 3 [] 200003 (.slice (.int .i64)) true, .tv 19 (.int .i64)], outs := [(.exit 2, [.own 3 [] 200003 (.slice (.int .i64)) true])] }), (13, { keep := [0, 4, 10, 11, 12, 51], live := [.own 3 [] 200003 (.slice (.int .i64)) true, .own 50 [] 800 (.slice (.int .i64)) true, .tv 52 (.int .i64)], outs := [(.exit 4, [.own 3 [] 200003 (.slice (.int .i64)) true])] })], joins := [], mv := true }
theorem S48 : Sound Tryz.prog 48 C48 := fun_sound (E := E48) ⟨good_T (by kernel_rfl), (good_cons S46 ⟨_, Tryz.func46, by kernel_rfl, by kernel_rfl⟩ (good_cons S78 ⟨_, Tryz.func78, by kernel_rfl, by kernel_rfl⟩ (good_cons S79 ⟨_, Tryz.func79, by kernel_rfl, by kernel_rfl⟩ good_nil))), mixedOk, ins_nil⟩ Tryz.func48 rfl fun _ => by kernel_rfl
def s_IsTrueLine (p_logs : List (List GEntry)) : Option (Bool × Bool) :=
 (s_auGood p_logs).bind fun r1 =>
 bif (!r1) then
 some (false, false)
 else
 (s_auLine p_logs).bind fun r2 =>
 some ((decide ((r2.length : Int) = 0)), true)
def C19 : FnSpec := { ps := [.val (.slice (.slice TGEntry))], rs := [.val .bool, .val .bool], fn := fun x => s_IsTrueLine x }
def E19 : Env := { T := [(48, (.slice (.slice (.int .i64))))], G := [(47, C47), (48, C48)], ro := [], loops := [], joins := [] }
theorem S19 : Sound Tryz.prog 19 C19 := fun_sound (E := E19) ⟨good_T (by kernel_rfl), (good_cons S47 ⟨_, Tryz.func47, by kernel_rfl, by kernel_rfl⟩ (good_cons S48 ⟨_, Tryz.func48, by kernel_rfl, by kernel_rfl⟩ good_nil)), mixedOk, ins_nil⟩ Tryz.func19 rfl fun _ => by kernel_rfl
def l_FnTop (p_code : List Int) (p_more : List Int) : Option (Bool) :=
 bif (decide (1048576 < (w64 ((p_code.length : Int) + (p_more.length : Int))))) then
 some true
 else
 (s_DrawStandsAfter p_code).bind fun r1 =>
 (i_ArrivedAfter r1.1 r1.2.1 r1.2.2.1 r1.2.2.2).bind fun r2 =>
 (s_ArrivedAfter r1.1 r1.2.1 r1.2.2.1 r1.2.2.2).bind fun r3 =>
 (bif (r2.2 != r3.2) then
 some true
 else
 (l_qInts r2.1 r3.1).bind fun r4 =>
 some (!r4)).bind fun c5 =>
 bif c5 then
 some false
 else
 bif r2.2 then
 (loopE (fun (st7 : (List Int) × Int) => (
 bif (decide (st7.2 < r1.1)) then
 bif decide (List.length st7.1 + List.length [(w64 (1 + st7.2)), (w64 (60 - st7.2))] ≤ lim) then
 some (.inl ((st7.1 ++ [(w64 (1 + st7.2)), (w64 (60 - st7.2))]), (w64 (st7.2 + 1))))
 else
 none
 else
 some (.inr st7.1) : Option (((List Int) × Int) ⊕ ((List Int))))) ([], 0)).bind fun o8 =>
 (i_SplitMessage 7 o8 2).bind fun r9 =>
 (s_SplitMessage 7 o8 2).bind fun r10 =>
 (bif (!r9.2) then
 some true
 else
 some (!r10.2)).bind fun c11 =>
 (bif c11 then
 some true
 else
 some (!decide ((r9.1.length : Int) = (r10.1.length : Int)))).bind fun c12 =>
 (bif c12 then
 some true
 else
 some (!decide ((r10.1.length : Int) = r1.1))).bind fun c13 =>
 bif c13 then
 some false
 else
 (i_AcceptMessage [] 7 r1.1).bind fun r14 =>
 bif (!r14.2) then
 some false
 else
 (loopE (fun (st17 : (List Int) × (List GPacket) × (List GTicket) × (List GPacket) × (List GEntry) × (List GPacket) × Int) => (
 bif (decide (st17.2.2.2.2.2.2 < (r10.1.length : Int))) then
 (idx st17.2.2.2.2.2.1 st17.2.2.2.2.2.2).bind fun e18 =>
 bif decide (0 ≤ st17.2.2.2.2.2.2) && decide (st17.2.2.2.2.2.2 < (st17.2.1.length : Int)) then
 (st17.2.1[(Int.toNat st17.2.2.2.2.2.2)]?).bind fun e19 =>
 (bif (!decide (e19.1 = e18.1)) then
 some true
 else
 bif decide (0 ≤ st17.2.2.2.2.2.2) && decide (st17.2.2.2.2.2.2 < (st17.2.1.length : Int)) then
 (st17.2.1[(Int.toNat st17.2.2.2.2.2.2)]?).bind fun e20 =>
 some (!decide (e20.2.1 = e18.2.1))
 else
 none).bind fun c21 =>
 (bif c21 then
 some true
 else
 bif decide (0 ≤ st17.2.2.2.2.2.2) && decide (st17.2.2.2.2.2.2 < (st17.2.1.length : Int)) then
 (st17.2.1[(Int.toNat st17.2.2.2.2.2.2)]?).bind fun e22 =>
 some (!decide (e22.2.2.1 = e18.2.2.1))
 else
 none).bind fun c23 =>
 (bif c23 then
 some true
 else
 bif decide (0 ≤ st17.2.2.2.2.2.2) && decide (st17.2.2.2.2.2.2 < (st17.2.1.length : Int)) then
 (st17.2.1[(Int.toNat st17.2.2.2.2.2.2)]?).bind fun e24 =>
 (l_qInts e24.2.2.2.1 e18.2.2.2.1).bind fun r25 =>
 some (!r25)
 else
 none).bind fun c26 =>
 bif c26 then
 some (.inr (.inr false))
 else
 (l_qHas r3.1 st17.2.2.2.2.2.2).bind fun r27 =>
 bif (!r27) then
 some (.inl (st17.1, st17.2.1, st17.2.2.1, st17.2.2.2.1, st17.2.2.2.2.1, st17.2.2.2.2.2.1, (w64 (st17.2.2.2.2.2.2 + 1))))
 else
 bif decide (List.length st17.2.2.2.1 + List.length [e18] ≤ lim) then
 bif decide (List.length st17.2.2.2.2.1 + List.length [(st17.2.2.2.2.2.2, 7, st17.2.2.2.2.2.2, e18.2.2.2.1, e18.2.2.2)] ≤ lim) then
 (i_NoteArrival st17.2.2.1 7 st17.2.2.2.2.2.2).bind fun r28 =>
 bif (!r28.2) then
 some (.inr (.inr false))
 else
 some (.inl (st17.1, st17.2.1, r28.1, (st17.2.2.2.1 ++ [e18]), (st17.2.2.2.2.1 ++ [(st17.2.2.2.2.2.2, 7, st17.2.2.2.2.2.2, e18.2.2.2.1, e18.2.2.2)]), st17.2.2.2.2.2.1, (w64 (st17.2.2.2.2.2.2 + 1))))
 else
 none
 else
 none
 else
 none
 else
 some (.inr (.inl (st17.1, st17.2.2.1, st17.2.2.2.1, st17.2.2.2.2.1))) : Option (((List Int) × (List GPacket) × (List GTicket) × (List GPacket) × (List GEntry) × (List GPacket) × Int) ⊕ (((List Int) × (List GTicket) × (List GPacket) × (List GEntry)) ⊕ Bool)))) (o8, r9.1, r14.1, [], [], r10.1, 0)).bind fun o29 =>
 match o29 with
 | .inl x30 =>
  (i_StandingOf x30.2.1 7).bind fun r32 =>
  (i_JoinMessage x30.2.2.1 7).bind fun r33 =>
  (bif (!r32.2.2) then
  some true
  else
  some (!decide (r32.2.1 = (w64 (r1.1 - (r3.1.length : Int)))))).bind fun c34 =>
  (bif c34 then
  some true
  else
  some ((decide (r32.1 = 1)) != (decide ((r3.1.length : Int) = r1.1)))).bind fun c35 =>
  (bif c35 then
  some true
  else
  some (r33.2 != (decide ((r3.1.length : Int) = r1.1)))).bind fun c36 =>
  (bif c36 then
  some true
  else
  (bif r33.2 then
  (l_qInts r33.1 x30.1).bind fun r37 =>
  some (!r37)
  else
  some false).bind fun c38 =>
  some c38).bind fun c39 =>
  bif c39 then
  some false
  else
  (i_IsTrueLine [x30.2.2.2, x30.2.2.2, x30.2.2.2]).bind fun r40 =>
  (bif (!r40.2) then
  some true
  else
  some (!r40.1)).bind fun c41 =>
  bif c41 then
  some false
  else
  bif (decide (0 < (x30.2.2.2.length : Int))) then
  bif decide (List.length x30.2.2.2 ≤ lim) then
  bif (!decide ((x30.2.2.2.length : Int) = 0)) then
  bif decide (0 ≤ (Int.tmod (p_more.length : Int) (x30.2.2.2.length : Int))) && decide ((Int.tmod (p_more.length : Int) (x30.2.2.2.length : Int)) < (x30.2.2.2.length : Int)) then
  (x30.2.2.2[(Int.toNat (Int.tmod (p_more.length : Int) (x30.2.2.2.length : Int)))]?).bind fun e42 =>
  bif decide (List.length e42.2.2.2.1 ≤ lim) then
  bif decide (0 ≤ 0) && decide (0 < (e42.2.2.2.1.length : Int)) then
  (e42.2.2.2.1[(Int.toNat 0)]?).bind fun e43 =>
  bif decide (0 ≤ 0) && decide (0 < (e42.2.2.2.1.length : Int)) then
  (bif decide (0 ≤ 0) && decide (0 < ((e42.2.2.2.1.set (Int.toNat 0) (w64 ((w64 (60 - e43)) + 1))).length : Int)) then
  ((e42.2.2.2.1.set (Int.toNat 0) (w64 ((w64 (60 - e43)) + 1)))[(Int.toNat 0)]?).bind fun e44 =>
  bif decide (0 ≤ (Int.tmod (p_more.length : Int) (x30.2.2.2.length : Int))) && decide ((Int.tmod (p_more.length : Int) (x30.2.2.2.length : Int)) < (x30.2.2.2.length : Int)) then
  (x30.2.2.2[(Int.toNat (Int.tmod (p_more.length : Int) (x30.2.2.2.length : Int)))]?).bind fun e45 =>
  (idx e45.2.2.2.1 0).bind fun e46 =>
  bif (decide (e44 = e46)) then
  bif decide (0 ≤ 0) && decide (0 < ((e42.2.2.2.1.set (Int.toNat 0) (w64 ((w64 (60 - e43)) + 1))).length : Int)) then
  some (x30.2.2.2, ((e42.2.2.2.1.set (Int.toNat 0) (w64 ((w64 (60 - e43)) + 1))).set (Int.toNat 0) 61))
  else
  none
  else
  some (x30.2.2.2, (e42.2.2.2.1.set (Int.toNat 0) (w64 ((w64 (60 - e43)) + 1))))
  else
  none
  else
  none).bind fun j47 =>
  bif decide (0 ≤ (Int.tmod (p_more.length : Int) (x30.2.2.2.length : Int))) && decide ((Int.tmod (p_more.length : Int) (x30.2.2.2.length : Int)) < (j47.1.length : Int)) then
  (j47.1[(Int.toNat (Int.tmod (p_more.length : Int) (x30.2.2.2.length : Int)))]?).bind fun e48 =>
  (idx (j47.1.set (Int.toNat (Int.tmod (p_more.length : Int) (x30.2.2.2.length : Int))) (e48.1, e48.2.1, e48.2.2.1, e48.2.2.2.1, j47.2, ())) (Int.tmod (p_more.length : Int) (x30.2.2.2.length : Int))).bind fun e49 =>
  (i_FirstFault [x30.2.2.2, (j47.1.set (Int.toNat (Int.tmod (p_more.length : Int) (x30.2.2.2.length : Int))) (e48.1, e48.2.1, e48.2.2.1, e48.2.2.2.1, j47.2, ())), x30.2.2.2] 7 e49.2.2.1).bind fun r50 =>
  (i_LineFaults [x30.2.2.2, (j47.1.set (Int.toNat (Int.tmod (p_more.length : Int) (x30.2.2.2.length : Int))) (e48.1, e48.2.1, e48.2.2.1, e48.2.2.2.1, j47.2, ())), x30.2.2.2]).bind fun r51 =>
  (bif (!r50.2.2) then
  some true
  else
  some (!decide (r50.1 = 5))).bind fun c52 =>
  (bif c52 then
  some true
  else
  some (!decide (r50.2.1 = 1))).bind fun c53 =>
  (bif c53 then
  some true
  else
  some (!r51.2)).bind fun c54 =>
  (bif c54 then
  some true
  else
  some (!decide ((r51.1.length : Int) = 2))).bind fun c55 =>
  bif c55 then
  some false
  else
  (s_DrawIsTrueLine p_more).bind fun r56 =>
  (i_IsTrueLine r56).bind fun r57 =>
  (s_IsTrueLine r56).bind fun r58 =>
  (bif (r57.2 == r58.2) then
  some (r57.1 == r58.1)
  else
  some false).bind fun c59 =>
  some c59
  else
  none
  else
  none
  else
  none
  else
  none
  else
  none
  else
  none
  else
  none
  else
  (s_DrawIsTrueLine p_more).bind fun r60 =>
  (i_IsTrueLine r60).bind fun r61 =>
  (s_IsTrueLine r60).bind fun r62 =>
  (bif (r61.2 == r62.2) then
  some (r61.1 == r62.1)
  else
  some false).bind fun c63 =>
  some c63
 | .inr y31 =>
  some y31
 else
 (s_DrawIsTrueLine p_more).bind fun r64 =>
 (i_IsTrueLine r64).bind fun r65 =>
 (s_IsTrueLine r64).bind fun r66 =>
 (bif (r65.2 == r66.2) then
 some (r65.1 == r66.1)
 else
 some false).bind fun c67 =>
 some c67
def C3 : FnSpec := { ps := [.val (.slice (.int .u8)), .val (.slice (.int .u8))], rs := [.val .bool], fn := fun x => l_FnTop x.1 x.2 }
def E3 : Env := { T := [(3, (.int .i64)), (4, .bool), (22, (.slice (.int .u8))), (23, (.slice (.int .i64))), (29, (.slice TGPacket)), (32, (.slice TGTicket)), (35, (.slice TGEntry)), (37, TGPacket), (40, TGEntry), (46, (.slice (.slice TGEntry))), (48, (.slice (.slice (.int .i64))))], G := [(4, C4), (5, C5), (6, C6), (7, C7), (8, C8), (9, C9), (10, C10), (11, C11), (12, C12), (13, C13), (14, C14), (15, C15), (16, C16), (17, C17), (18, C18), (19, C19)], ro := [], loops := [(11, { keep := [1, 5, 11, 111, 112, 115, 116, 117, 118, 119, 122, 123, 124, 125, 151, 152, 153, 154, 155, 156, 157, 158, 161, 162, 163, 164, 165, 166, 167, 168, 171, 172, 173, 174, 175, 176, 177, 178, 179, 223, 224, 225, 226, 227, 228, 231, 232, 233, 234, 235, 236, 237, 240, 241, 242, 243, 244, 245, 248, 249, 250, 251, 252, 253, 254, 267, 268, 338, 339, 342, 343, 346, 347, 350, 351, 352, 370, 371, 372], live := [.own 13 [] 200013 (.int .i64) true, .tv 14 (.int .i64)], outs := [(.exit 0, [.own 13 [] 200013 (.int .i64) true])] }), (24, { keep := [1, 5, 11, 136, 223, 224, 225, 226, 227, 228, 231, 232, 233, 234, 235, 236, 237, 240, 241, 242, 243, 244, 245, 248, 249, 250, 251, 252, 253, 254, 267, 268, 338, 339, 342, 343, 346, 347, 350, 351, 352, 370, 371, 372], live := [.own 13 [] 200013 (.int .i64) true, .own 15 [] 1600 TGPacket true, .own 19 [] 2080 TGTicket true, .own 21 [] 200021 TGPacket false, .own 22 [] 200022 TGEntry false, .tv 135 (.slice TGPacket), .tv 137 (.int .i64)], outs := [(.exit 2, [.own 13 [] 200013 (.int .i64) true, .own 19 [] 2080 TGTicket true, .own 21 [] 200021 TGPacket false, .own 22 [] 200022 TGEntry false]), (.ret, [.tv 4 .bool])] })], joins := [(50, { keep := [1, 22, 35], live := [], outs := [(.normal, [.own 34 [] 4400 TGEntry false, .own 36 [] 4592 (.int .i64) true])] })], fz := [140] }
theorem S3 : Sound Tryz.prog 3 C3 := fun_sound (E := E3) ⟨good_T (by kernel_rfl), (good_cons S4 ⟨_, Tryz.func4, by kernel_rfl, by kernel_rfl⟩ (good_cons S5 ⟨_, Tryz.func5, by kernel_rfl, by kernel_rfl⟩ (good_cons S6 ⟨_, Tryz.func6, by kernel_rfl, by kernel_rfl⟩ (good_cons S7 ⟨_, Tryz.func7, by kernel_rfl, by kernel_rfl⟩ (good_cons S8 ⟨_, Tryz.func8, by kernel_rfl, by kernel_rfl⟩ (good_cons S9 ⟨_, Tryz.func9, by kernel_rfl, by kernel_rfl⟩ (good_cons S10 ⟨_, Tryz.func10, by kernel_rfl, by kernel_rfl⟩ (good_cons S11 ⟨_, Tryz.func11, by kernel_rfl, by kernel_rfl⟩ (good_cons S12 ⟨_, Tryz.func12, by kernel_rfl, by kernel_rfl⟩ (good_cons S13 ⟨_, Tryz.func13, by kernel_rfl, by kernel_rfl⟩ (good_cons S14 ⟨_, Tryz.func14, by kernel_rfl, by kernel_rfl⟩ (good_cons S15 ⟨_, Tryz.func15, by kernel_rfl, by kernel_rfl⟩ (good_cons S16 ⟨_, Tryz.func16, by kernel_rfl, by kernel_rfl⟩ (good_cons S17 ⟨_, Tryz.func17, by kernel_rfl, by kernel_rfl⟩ (good_cons S18 ⟨_, Tryz.func18, by kernel_rfl, by kernel_rfl⟩ (good_cons S19 ⟨_, Tryz.func19, by kernel_rfl, by kernel_rfl⟩ good_nil)))))))))))))))), mixedOk, ins_nil⟩ Tryz.func3 rfl fun _ => by kernel_rfl
end
end Go.Proofs.YtffmiefhnbkcbaaGreat.Sh
